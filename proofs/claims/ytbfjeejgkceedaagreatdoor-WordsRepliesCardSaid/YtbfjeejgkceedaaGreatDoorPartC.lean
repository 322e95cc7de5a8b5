import Derived.Test.YtbfjeejgkceedaaGreatDoorPartB
namespace Go.RX

theorem isWr_iff {ob : SObj} : isWr ob = true ↔ writable ob := by cases ob <;> simp [isWr, writable]

theorem hget_hsets_mem : ∀ {l : List (Nat × SObj)} {H : List SObj} {k : Nat} {ob : SObj}, (k, ob) ∈ l → (∀ ob', (k, ob') ∈ l → ob' = ob) → hget (hsets H l) k = ob
  | [], _, _, _, h, _ => by simp at h
  | (a, o1) :: l, H, k, ob, h, hu => by
    rw [hsets]
    by_cases hk : ∃ o2, (k, o2) ∈ l
    · obtain ⟨o2, h2⟩ := hk
      have e := hu o2 (List.mem_cons_of_mem _ h2)
      subst e
      exact hget_hsets_mem h2 (fun ob' h' => hu ob' (List.mem_cons_of_mem _ h'))
    · rcases List.mem_cons.1 h with e | e
      · cases e
        rw [hget_hsets_out _ _ _ (fun q hq e => hk ⟨q.2, by rw [← e]; exact hq⟩), hget_hset, if_pos rfl]
      · exact (hk ⟨_, e⟩).elim

theorem length_hset : ∀ (H : List SObj) (n : Nat) (ob : SObj), (hset H n ob).length = max H.length (n + 1)
  | [], 0, ob => by simp [hset]
  | [], n + 1, ob => by simp [hset, length_hset [] n ob]
  | a :: H, 0, ob => by simp [hset]
  | a :: H, n + 1, ob => by simp [hset, length_hset H n ob]
theorem length_hsets : ∀ (l : List (Nat × SObj)) (H : List SObj), H.length ≤ (hsets H l).length ∧ ∀ q ∈ l, q.1 < (hsets H l).length
  | [], H => ⟨Nat.le_refl _, by simp⟩
  | (n, ob) :: l, H => by
    rw [hsets]
    obtain ⟨h1, h2⟩ := length_hsets l (hset H n ob)
    rw [length_hset] at h1
    refine ⟨by omega, fun q hq => ?_⟩
    rcases List.mem_cons.1 hq with e | e
    · subst e; simp only; omega
    · exact h2 q e

theorem frost_mem {H : List SObj} : ∀ {l : List Nat} {q : Nat × SObj}, q ∈ frost H l → q.1 ∈ l ∧ ∃ e c wr, hget H q.1 = .row e c wr
  | [], q, h => by simp [frost] at h
  | r :: l, q, h => by
    unfold frost at h
    split at h
    · rename_i e c wr hr
      rcases List.mem_cons.1 h with e' | h
      · subst e'; exact ⟨List.mem_cons_self .., _, _, _, hr⟩
      · obtain ⟨h1, h2⟩ := frost_mem h
        exact ⟨List.mem_cons_of_mem _ h1, h2⟩
    · obtain ⟨h1, h2⟩ := frost_mem h
      exact ⟨List.mem_cons_of_mem _ h1, h2⟩
theorem hget_frost_congr {H : List SObj} {l l' : List Nat} {o : Nat} (h : o ∈ l ↔ o ∈ l') : hget (hsets H (frost H l)) o = hget (hsets H (frost H l')) o := by
  by_cases ho : o ∈ l
  · by_cases hr : ∃ e c wr, hget H o = .row e c wr
    · obtain ⟨e, c, wr, hr⟩ := hr
      rw [frost_in hr l H ho, frost_in hr l' H (h.1 ho)]
    · rw [hget_hsets_out _ _ _ (fun q hq e => hr (by rw [← e]; exact (frost_mem hq).2)), hget_hsets_out _ _ _ (fun q hq e => hr (by rw [← e]; exact (frost_mem hq).2))]
  · rw [frost_keys H l ho, frost_keys H l' (fun hh => ho (h.2 hh))]

/-- What an operation, or a call, makes of the world; new objects have numbers from n on. -/
structure Goes (P : Program) (B : Base) (ρ : List D) (H : List SObj) (m : Pl) (w : World) (n : Nat) (sets : List (Nat × SObj)) (val : SV) (m' : Pl) (w' : World) (v : Value) : Prop where
  sim : Sim P B ρ (hsets H sets) m' w'
  le : Pl.le m m'
  keep : KeepsAv (avOf P m ρ B.fr H) w w' (avOf P m' ρ B.fr (hsets H sets))
  val : RepS P w' (avOf P m' ρ B.fr (hsets H sets)) m' ρ val v
  new : ∀ o, o < n ∨ (hsets H sets).length ≤ o → m' o = m o

section
variable {P : Program} {B : Base} {ρ : List D} {w w' : World} {m m' : Pl} {H : List SObj} {n : Nat} {sets : List (Nat × SObj)} {val : SV} {v : Value}
theorem Step.goes (h : Step P B ρ H m w sets val m' w' v) (hs : Sim P B ρ H m w) (hk : setsOk H n sets = true) : Goes P B ρ H m w n sets val m' w' v := by
  refine ⟨h.sim, h.le, h.keep, h.val, fun o ho => ?_⟩
  cases hm : m o with
  | some p => exact h.le o p hm
  | none =>
    refine h.fresh o hm fun q hq e => ?_
    rcases ho with ho | ho
    · simp only [setsOk, List.all_eq_true, Bool.and_eq_true, Bool.or_eq_true, decide_eq_true_eq] at hk
      rcases (hk q hq).1 with h1 | h1
      · omega
      · obtain ⟨p, hp⟩ := ObjOk.some (writable_live (isWr_iff.1 h1)) (hs.ok q.1)
        rw [e, hm] at hp; cases hp
    · have := (length_hsets sets H).2 q hq
      omega
end

/-- What a call leaves. -/
structure Ret (P : Program) (B : Base) (sg : Sig) (out : SOut) (rs : List D) (m m' : Pl) (w' : World) (v : Value) : Prop where
  sim : Sim P B rs out.heap m' w'
  val : RepS P w' (avOf P m' rs B.fr out.heap) m' rs out.res v
  stay : ∀ i, i < sg.heap.length → keeper (hget sg.heap i) = true ∨ i ∈ out.stay → hget out.heap i ≠ .dead → m' i = m i
  none : ∀ i, hget out.heap i = .dead → m' i = none

/-- the function can be called -/
def callOk (P : Program) (f : FuncId) : Bool :=
  match P.funcs[f]? with
  | some fn => fn.name != "runtime.NumGoroutine" && fn.body.isSome
  | none => false
/-- The first world lies below all others, as it was. -/
structure Under (W0 : World) (B : Base) : Prop where
  size : W0.heap.size ≤ B.w0.heap.size
  block : ∀ b, b < W0.heap.size → B.w0.heap[b]? = W0.heap[b]?
  free : ∀ b, b < W0.heap.size → ¬ B.ow b
theorem Under.now {P : Program} {W0 : World} {B : Base} {ρ : List D} {H : List SObj} {m : Pl} {w : World} (h : Under W0 B) (hS : Sim P B ρ H m w) : W0.heap.size ≤ w.heap.size ∧ ∀ b, b < W0.heap.size → w.heap[b]? = W0.heap[b]? :=
  ⟨Nat.le_trans h.size hS.ext.size, fun b hb => (hS.ext.block b (Nat.lt_of_lt_of_le hb h.size) (h.free b hb)).trans (h.block b hb)⟩
theorem Under.given {P : Program} {W0 : World} {B : Base} {ρ ρp : List D} {H Hp : List SObj} {m mp : Pl} {w : World} {g : Nat → Nat} (h : Under W0 B) (hS : Sim P B ρ H m w) (hl : Looks P B ρ H m w ρp Hp mp g) : Under W0 (B.given P ρ H m w Hp mp g) := by
  obtain ⟨h1, h2⟩ := h.now hS
  refine ⟨h1, h2, fun b hb => ?_⟩
  rintro ⟨r, p, g1, g2, g3⟩
  have hlr := hl.live r (writable_live g1)
  rw [hlr.2] at g2
  rcases hS.base (g r) p b (hl.wr r g1).1 g2 g3 with h | h
  · exact Under.free ‹Under W0 B› b hb h
  · have := Under.size ‹Under W0 B›
    omega
theorem Under.within {P : Program} {W0 : World} {B : Base} {ρ : List D} {H H1 : List SObj} {m : Pl} {w : World} (h : Under W0 B) (hS : Sim P B ρ H m w) (hl : View P B ρ H m w H1) : Under W0 (B.within P ρ H m w H1) := by
  obtain ⟨h1, h2⟩ := h.now hS
  refine ⟨h1, h2, fun b hb => ?_⟩
  rintro ⟨r, p, g1, g2, g3⟩
  rcases hS.base r p b (hl.wr g1).1 g2 g3 with h | h
  · exact Under.free ‹Under W0 B› b hb h
  · have := Under.size ‹Under W0 B›
    omega

/-- A function keeps a contract, above a first world: what it is given by 'sg', it answers by F. -/
structure Con (P : Program) (W0 : World) (f : FuncId) (sg : Sig) (F : List D → Option (Nat × List D)) : Prop where
  ok : callOk P f = true
  shape : ∀ (ρ : List D) (j : Nat) (rs : List D), F ρ = some (j, rs) → ∃ out, sg.outs[j]? = some out ∧ rs.length = out.nv
  calls : ∀ (B : Base) (ρ : List D) (m : Pl) (w : World) (args : List Value) (j : Nat) (rs : List D) (out : SOut),
    Under W0 B → ρ.length = sg.nv → Sim P B ρ sg.heap m w → (∀ o, sg.heap.length ≤ o → m o = none) → RepSs P w (avOf P m ρ B.fr sg.heap) m ρ sg.params args →
    F ρ = some (j, rs) → sg.outs[j]? = some out → Calls P f args.toArray w fun e w' => ∃ v m', e = .returned v ∧ Ret P B sg out rs m m' w' v

/-- rows for slices that are nil -/
def newRows (pat : List SObj) (n : Nat) : List (Nat × Nat) → List (Nat × SObj)
  | [] => []
  | (r, s) :: l => match hget pat r with
    | .row e _ wr => if n ≤ s then (s, .row e (.lit .nil) wr) :: newRows pat n l else newRows pat n l
    | _ => newRows pat n l
theorem newRows_mem {pat : List SObj} {n : Nat} : ∀ {l : List (Nat × Nat)} {q : Nat × SObj}, q ∈ newRows pat n l ↔ ∃ r e c wr, (r, q.1) ∈ l ∧ n ≤ q.1 ∧ hget pat r = .row e c wr ∧ q.2 = .row e (.lit .nil) wr
  | [], q => by simp [newRows]
  | (r, s) :: l, q => by
    unfold newRows
    constructor
    · intro h
      split at h
      · rename_i e c wr hr
        split at h
        · rename_i hs
          rcases List.mem_cons.1 h with e' | h
          · subst e'; exact ⟨r, e, c, wr, List.mem_cons_self .., hs, hr, rfl⟩
          · obtain ⟨r', e', c', wr', h1, h2⟩ := newRows_mem.1 h
            exact ⟨r', e', c', wr', List.mem_cons_of_mem _ h1, h2⟩
        · obtain ⟨r', e', c', wr', h1, h2⟩ := newRows_mem.1 h
          exact ⟨r', e', c', wr', List.mem_cons_of_mem _ h1, h2⟩
      · obtain ⟨r', e', c', wr', h1, h2⟩ := newRows_mem.1 h
        exact ⟨r', e', c', wr', List.mem_cons_of_mem _ h1, h2⟩
    · rintro ⟨r', e', c', wr', h1, h2, h3, h4⟩
      rcases List.mem_cons.1 h1 with e | h1
      · cases e
        rw [h3]
        simp only [h2, if_true]
        exact List.mem_cons.2 (.inl (Prod.ext rfl h4))
      · have := newRows_mem.2 ⟨r', e', c', wr', h1, h2, h3, h4⟩
        split
        · split
          · exact List.mem_cons_of_mem _ this
          · exact this
        · exact this
theorem deadGiven_mem {sg : Sig} : ∀ {l : List (Nat × Nat)} {q : Nat × SObj}, q ∈ deadGiven sg l ↔ ∃ r, (r, q.1) ∈ l ∧ isWr (hget sg.heap r) = true ∧ q.2 = .dead
  | [], q => by simp [deadGiven]
  | (r, s) :: l, q => by
    unfold deadGiven
    constructor
    · intro h
      split at h
      · rename_i hr
        rcases List.mem_cons.1 h with e' | h
        · subst e'; exact ⟨r, List.mem_cons_self .., hr, rfl⟩
        · obtain ⟨r', h1, h2⟩ := deadGiven_mem.1 h
          exact ⟨r', List.mem_cons_of_mem _ h1, h2⟩
      · obtain ⟨r', h1, h2⟩ := deadGiven_mem.1 h
        exact ⟨r', List.mem_cons_of_mem _ h1, h2⟩
    · rintro ⟨r', h1, h2, h3⟩
      rcases List.mem_cons.1 h1 with e | h1
      · cases e
        rw [if_pos h2]
        exact List.mem_cons.2 (.inl (Prod.ext rfl h3))
      · have := deadGiven_mem.2 ⟨r', h1, h2, h3⟩
        split
        · exact List.mem_cons_of_mem _ this
        · exact this
theorem outSets_mem {sg : Sig} {stay : List Nat} {ren : List (Nat × Nat)} {n nv onv : Nat} : ∀ {l : List SObj} {i : Nat} {q : Nat × SObj}, q ∈ outSets sg stay ren n nv onv i l ↔
    ∃ k, isWr (hget l k) = true ∧ q.1 = outId sg stay ren n (i + k) ∧ q.2 = (hget l k).mapv (outVar nv onv) (outId sg stay ren n)
  | [], i, q => by simp [outSets, hget_nil, isWr]
  | ob :: l, i, q => by
    unfold outSets
    constructor
    · intro h
      dsimp only at h
      split at h
      · rename_i hw
        rcases List.mem_cons.1 h with e | h
        · subst e; exact ⟨0, by rw [hget_cons_zero]; exact hw, rfl, by rw [hget_cons_zero]⟩
        · obtain ⟨k, h1, h2, h3⟩ := outSets_mem.1 h
          exact ⟨k + 1, by rw [hget_cons_succ]; exact h1, by rw [h2, Nat.add_assoc, Nat.add_comm 1 k], by rw [hget_cons_succ]; exact h3⟩
      · obtain ⟨k, h1, h2, h3⟩ := outSets_mem.1 h
        exact ⟨k + 1, by rw [hget_cons_succ]; exact h1, by rw [h2, Nat.add_assoc, Nat.add_comm 1 k], by rw [hget_cons_succ]; exact h3⟩
    · rintro ⟨k, h1, h2, h3⟩
      dsimp only
      cases k with
      | zero =>
        rw [hget_cons_zero] at h1 h3
        rw [if_pos h1]
        exact List.mem_cons.2 (.inl (Prod.ext h2 h3))
      | succ k =>
        rw [hget_cons_succ] at h1 h3
        have := outSets_mem.2 ⟨k, h1, by rw [h2, Nat.add_assoc, Nat.add_comm 1 k], h3⟩
        split
        · exact List.mem_cons_of_mem _ this
        · exact this
end Go.RX
namespace Go.RX

section
variable {P : Program} {B : Base} {ρ : List D} {w : World} {m : Pl} {H : List SObj} {n : Nat} {as : List SV} {sg : Sig} {xs : List X} {M : MSt}

/-- what a call freezes -/
def frzAll (sg : Sig) (M : MSt) : List Nat := M.frz ++ (M.ren.filter fun q => match hget sg.heap q.1 with | .row _ _ false => true | _ => false).map (·.2)

/-- The objects as the call finds them. -/
theorem Matched.given (hM : Matched P 0 sg.nv sg.params as sg.heap H n [] xs M) (h : Sim P B ρ H m w) (hH : H.length ≤ n) (hf : ∀ o, n ≤ o → o < n + M.news → m o = none) :
    let H3 := hsets (hsets H (frost H (frzAll sg M))) (newRows sg.heap n M.ren)
    Sim P B ρ H3 (m2Of m n M.news) w ∧ KeepsAv (avOf P m ρ B.fr H) w w (avOf P (m2Of m n M.news) ρ B.fr H3) ∧
      Looks P B ρ H3 (m2Of m n M.news) w (xs.map (·.den ρ)) sg.heap (mpOf (m2Of m n M.news) M.ren) (renOf M.ren) ∧
      (∀ vs, RepSs P w (avOf P m ρ B.fr H) m ρ as vs → RepSs P w (avOf P (m2Of m n M.news) ρ B.fr H3) (mpOf (m2Of m n M.news) M.ren) (xs.map (·.den ρ)) sg.params vs) := by
  intro H3
  let fz := frzAll sg M
  let H2 := hsets H (frost H fz)
  let m2 := m2Of m n M.news
  let mp := mpOf m2 M.ren
  have hfr2 : FrozIn H H2 fz := FrozIn.frost H fz
  have hfr : FrozIn H H2 M.frz := hfr2.mono (fun r hr => List.mem_append_left _ hr)
  have hS2 : Sim P B ρ H2 m w := h.froz hfr.1
  have h3new : ∀ {r s e c wr}, (r, s) ∈ M.ren → n ≤ s → hget sg.heap r = .row e c wr → hget H3 s = .row e (.lit .nil) wr := by
    intro r s e c wr hrs hs hr
    refine hget_hsets_mem (newRows_mem.2 ⟨r, e, c, wr, hrs, hs, hr, rfl⟩) fun ob' h' => ?_
    obtain ⟨r', e', c', wr', h1, h2, h3, h4⟩ := newRows_mem.1 h'
    have := ren_inj hM.ok hrs h1
    subst this
    rw [hr] at h3; cases h3; exact h4
  have h3old : ∀ {s}, s < n → hget H3 s = hget H2 s := by
    intro s hs
    refine hget_hsets_out _ _ _ fun q hq e => ?_
    obtain ⟨r', e', c', wr', h1, h2, h3, h4⟩ := newRows_mem.1 hq
    omega
  have h3live : ∀ {s}, n ≤ s → hget H3 s ≠ .dead → ∃ r e c wr, (r, s) ∈ M.ren ∧ hget sg.heap r = .row e c wr := by
    intro s hs hl
    by_cases hx : ∃ q ∈ newRows sg.heap n M.ren, q.1 = s
    · obtain ⟨q, hq, rfl⟩ := hx
      obtain ⟨r', e', c', wr', h1, h2, h3, h4⟩ := newRows_mem.1 hq
      exact ⟨r', e', c', wr', h1, h3⟩
    · have : hget H3 s = hget H2 s := hget_hsets_out _ _ _ fun q hq e => hx ⟨q, hq, e⟩
      rw [this] at hl
      exact (((hfr.1.live s).1 hl) (hget_none (by omega))).elim
  have hm2n : ∀ {s}, n ≤ s → s < n + M.news → m2 s = some nilPlace := by
    intro s h1 h2
    show m2Of m n M.news s = _
    unfold m2Of; rw [if_pos ⟨h1, h2⟩]
  obtain ⟨hS3, hk⟩ := Sim.weaken (H := H2) (Hp := H3) (mp := m2) (ρp := ρ) (g := id) hS2 (fun r hr => by
    by_cases hrn : n ≤ r
    · obtain ⟨r', _, _, _, h1, _⟩ := h3live hrn hr
      exact .inl (hm2n hrn (hM.lt _ h1))
    · right
      rw [h3old (by omega)] at hr
      refine ⟨hr, ?_, fun hw => ⟨by rw [h3old (by omega)] at hw; exact hw, fun off => by rw [h3old (by omega)]; exact id⟩⟩
      show m2Of m n M.news r = m r
      unfold m2Of; rw [if_neg (by omega)]) (fun r hr => by
    by_cases hrn : n ≤ r
    · obtain ⟨r', e, c, wr, h1, h2⟩ := h3live hrn hr
      rw [h3new h1 hrn h2, hm2n hrn (hM.lt _ h1)]
      exact ⟨[], [], .slice none 0 0, rfl, by simp [X.den, D.aggL], ⟨by simp, by simp⟩, World.ownsRow_nil w 0 e _, by simp, by simp only [rowTys, List.length_nil, List.replicate_zero, List.flatten_nil]; exact .nil⟩
    · rw [h3old (by omega)] at hr ⊢
      have hok := hS2.ok r
      obtain ⟨q, hq⟩ := ObjOk.some hr hok
      have e2 : m2 r = some q := m2Of_le hf r q hq
      rw [e2]
      rw [hq] at hok
      exact ObjOk.keeps (KeepsAv.refl _ _) (m2Of_le hf) (fun _ _ _ _ => rfl) hok) (fun r r' _ _ _ _ e => e)
  have hkk : KeepsAv (avOf P m ρ B.fr H) w w (avOf P m2 ρ B.fr H3) := (keepsAv_froz hfr.1).trans hk
  refine ⟨hS3, hkk, ⟨fun r hr => ?_, fun r hr => ?_, fun r hw => ?_, fun r r' hr hr' e => ?_⟩, fun vs hv => ?_⟩
  · obtain ⟨s, hrs⟩ := hM.live r hr
    have hg : renOf M.ren r = s := by unfold renOf; rw [find_of_mem hM.ok hrs]
    rw [hg]
    refine ⟨?_, hM.mp hrs⟩
    rcases (hM.objs h (Nat.zero_le _) hf hfr hrs).2 with ⟨hs, e, c, wr, he, _⟩ | ⟨hs, hl, _⟩
    · rw [h3new hrs hs he]; simp
    · rw [h3old hs]; exact (hfr.1.live s).2 hl
  · obtain ⟨s, hrs⟩ := hM.live r hr
    rw [hM.mp hrs]
    exact ObjOk.keeps hk (Pl.le_refl _) (fun _ _ _ _ => rfl) (hM.objs h (Nat.zero_le _) hf hfr hrs).1
  · obtain ⟨s, hrs⟩ := hM.live r (writable_live hw)
    have hg : renOf M.ren r = s := by unfold renOf; rw [find_of_mem hM.ok hrs]
    rw [hg]
    rcases (hM.objs h (Nat.zero_le _) hf hfr hrs).2 with ⟨hs, e, c, wr, he, hc⟩ | ⟨hs, hl, _, hwr⟩
    · rw [h3new hrs hs he, he]
      refine ⟨trivial, fun off => ?_⟩
      cases wr with
      | true => exact Iff.rfl
      | false =>
        have hc' : c.den (xs.map (·.den ρ)) = .sl [] := hc
        simp only [region, hc']
        simp [X.den, D.aggL, D.toSl]
    · rw [h3old hs]
      refine ⟨(hfr.1.writable s).2 (hwr hw).1, fun off => ?_⟩
      rcases (hwr hw).2 with ⟨e, c, wr, c', wr', e1, e2, e3, e4⟩ | ⟨hreg, hnr⟩
      · have e3' : c.den (xs.map (·.den ρ)) = c'.den ρ := e3
        cases wr with
        | true =>
          have hx : hget H2 s = hget H s := by
            refine frost_keys H fz fun hin => ?_
            rcases List.mem_append.1 hin with hin | hin
            · exact hM.free _ hrs e c e1 hin
            · obtain ⟨q, hq, e5⟩ := List.mem_map.1 hin
              obtain ⟨hq1, hq2⟩ := List.mem_filter.1 hq
              have : q.1 = r := ren_inj hM.ok (s := s) (by rw [← e5]; exact hq1) hrs
              rw [this, e1] at hq2
              simp at hq2
          rw [hx, e1, e2, e4 rfl]; exact Iff.rfl
        | false =>
          have hx : hget H2 s = .row e c' false := hfr2.2 s (List.mem_append_right _ (List.mem_map.2 ⟨(r, s), List.mem_filter.2 ⟨hrs, by rw [e1]⟩, rfl⟩)) e c' wr' e2
          rw [hx, e1]
          simp only [region]
          rw [e3']
      · rcases hfr.1 s with hx | ⟨e', c'', wr'', hx1, hx2⟩
        · rw [hx]; exact hreg off
        · exact (hnr _ _ _ hx1).elim
  · obtain ⟨s, hrs⟩ := hM.live r hr
    obtain ⟨s', hrs'⟩ := hM.live r' hr'
    have hg : renOf M.ren r = s := by unfold renOf; rw [find_of_mem hM.ok hrs]
    have hg' : renOf M.ren r' = s' := by unfold renOf; rw [find_of_mem hM.ok hrs']
    rw [hg, hg'] at e
    subst e
    exact ren_inj hM.ok hrs hrs'
  · obtain ⟨M0, M1, h1, h2⟩ := hM.list
    exact ((hM.fit h (Nat.zero_le _) hf hfr).matchList h1 h2 hv).keeps' hk (Pl.le_refl _)
end
end Go.RX
namespace Go.RX

section
variable {P : Program} {B : Base} {ρ : List D} {w : World} {m : Pl} {H : List SObj} {n : Nat} {as : List SV} {sg : Sig} {xs : List X} {M : MSt}

theorem outVar_den {nv onv : Nat} {rs : List D} (hl : rs.length = onv) (h : ∀ i, i < onv → ρ.getD (nv + i) default = rs.getD i default) (i : Nat) : (outVar nv onv i).den ρ = rs.getD i default := by
  unfold outVar
  split
  · simp only [X.den]; exact h i ‹_›
  · simp only [X.den]
    rw [List.getD_eq_getElem?_getD, List.getElem?_eq_none (by omega)]; rfl

/-- What stays where it lay. -/
def kept (sg : Sig) (out : SOut) (i : Nat) : Bool := i < sg.heap.length && (keeper (hget sg.heap i) || out.stay.contains i)
/-- The places behind a call. -/
def mOut (sg : Sig) (out : SOut) (m2 m1 : Pl) (n' : Nat) : Pl := fun o => if n' ≤ o ∧ o < n' + out.heap.length ∧ kept sg out (o - n') = false then m1 (o - n') else m2 o

theorem Con.goes {f : FuncId} {F : List D → Option (Nat × List D)} {W0 : World} (hcon : Con P W0 f sg F) (hB : Under W0 B) (hsg : sgOk sg = true) (h : Sim P B ρ H m w) (hM : Matched P 0 sg.nv sg.params as sg.heap H n [] xs M) (hH : H.length ≤ n)
    {j : Nat} {rs : List D} {out : SOut} (hF : F (xs.map (·.den ρ)) = some (j, rs)) (hout : sg.outs[j]? = some out) {nv : Nat} (hrs : ∀ i, i < out.nv → ρ.getD (nv + i) default = rs.getD i default)
    {sets : List (Nat × SObj)} (hsets' : sets = frost H M.frz ++ deadGiven sg M.ren ++ outSets sg out.stay M.ren (n + M.news) nv out.nv 0 out.heap ++ [(n + M.news + out.heap.length, .dead)])
    (hf : ∀ o, n ≤ o → o < (hsets H sets).length → m o = none) {args : List Value} (hargs : RepSs P w (avOf P m ρ B.fr H) m ρ as args) :
    Calls P f args.toArray w fun e w' => ∃ v m', e = .returned v ∧ Goes P B ρ H m w n sets (out.res.map (outVar nv out.nv) (outId sg out.stay M.ren (n + M.news))) m' w' v := by
  obtain ⟨out', ho', hlen⟩ := hcon.shape _ _ _ hF
  rw [hout] at ho'; cases ho'
  let n' := n + M.news
  have hbig : n' + out.heap.length < (hsets H sets).length := by
    refine (length_hsets sets H).2 (n' + out.heap.length, .dead) ?_
    rw [hsets']
    exact List.mem_append_right _ (List.mem_singleton.2 rfl)
  have hf2 : ∀ o, n ≤ o → o < n + M.news → m o = none := fun o h1 h2 => hf o h1 (by omega)
  obtain ⟨hS3, hk3, hlk, hpar⟩ := hM.given h hH hf2
  have hSp := hS3.given hlk
  have hav := av_given hlk
  have hnone : ∀ o, sg.heap.length ≤ o → mpOf (m2Of m n M.news) M.ren o = none := fun o ho => mpOf_none fun s hs => hM.named _ hs (hget_none ho)
  refine (hcon.calls _ _ _ w args j rs out (hB.given hS3 hlk) (by simp [hM.len]) hSp hnone (by rw [hav]; exact hpar args hargs) hF hout).mono ?_
  rintro e w' ⟨v, m1, rfl, hr⟩
  let H2 := hsets H (frost H (frzAll sg M))
  let H3 := hsets H2 (newRows sg.heap n M.ren)
  let m2 := m2Of m n M.news
  let mp := mpOf m2 M.ren
  let g := renOf M.ren
  let g' := outId sg out.stay M.ren n'
  let f' := outVar nv out.nv
  let m' := mOut sg out m2 m1 n'
  let T : Nat → Prop := fun o => (∃ r, writable (hget sg.heap r) ∧ g r = o) ∨ ∃ i, writable (hget out.heap i) ∧ g' i = o
  have hg : ∀ {r s}, (r, s) ∈ M.ren → g r = s := by intro r s hrs; show renOf M.ren r = s; unfold renOf; rw [find_of_mem hM.ok hrs]
  have hkept : ∀ {i}, kept sg out i = true → g' i = g i := by
    intro i hi
    show outId sg out.stay M.ren n' i = _
    unfold outId kept at *
    rw [if_pos (by simpa using hi)]
  have hunkept : ∀ {i}, kept sg out i = false → g' i = n' + i := by
    intro i hi
    show outId sg out.stay M.ren n' i = _
    unfold outId kept at *
    rw [if_neg (by rw [← Bool.not_eq_true] at hi; simpa using hi)]
  simp only [sgOk, List.all_eq_true, Bool.and_eq_true, decide_eq_true_eq, List.mem_range, Bool.or_eq_true, Bool.not_eq_true', Bool.and_eq_false_imp] at hsg
  obtain ⟨hsg1, hsg2⟩ := hsg out (List.mem_of_getElem? hout)
  -- what stays is found
  have hkin : ∀ {i}, kept sg out i = true → ∃ s, (i, s) ∈ M.ren := by
    intro i hi
    simp only [kept, Bool.and_eq_true, decide_eq_true_eq, Bool.or_eq_true] at hi
    refine hM.live i fun e => ?_
    rcases hi.2 with hi | hi
    · rw [e] at hi; simp [keeper] at hi
    · have := (hsg1 i (List.contains_iff_mem.1 hi)).1
      rw [e] at this; simp [isWr] at this
  have hkw : ∀ {i}, kept sg out i = true → writable (hget out.heap i) → writable (hget sg.heap i) := by
    intro i hi hw
    simp only [kept, Bool.and_eq_true, decide_eq_true_eq, Bool.or_eq_true] at hi
    rcases hi.2 with hi' | hi'
    · rcases hsg2 i hi.1 with h1 | h1
      · have := h1 hi'
        rw [isWr_iff.2 hw] at this; cases this
      · exact isWr_iff.1 h1
    · exact isWr_iff.1 (hsg1 i (List.contains_iff_mem.1 hi')).1
  have hlt' : ∀ {i}, hget out.heap i ≠ .dead → i < out.heap.length := by
    intro i hi
    by_cases hlt : i < out.heap.length
    · exact hlt
    · exact (hi (hget_none (by omega))).elim
  have hginj : ∀ {i i'}, hget out.heap i ≠ .dead → hget out.heap i' ≠ .dead → g' i = g' i' → i = i' := by
    intro i i' hi hi' e
    cases h1 : kept sg out i <;> cases h2 : kept sg out i'
    · rw [hunkept h1, hunkept h2] at e; omega
    · rw [hunkept h1, hkept h2] at e
      obtain ⟨s, hs⟩ := hkin h2
      rw [hg hs] at e
      have : s < n + M.news := hM.lt _ hs
      omega
    · rw [hkept h1, hunkept h2] at e
      obtain ⟨s, hs⟩ := hkin h1
      rw [hg hs] at e
      have : s < n + M.news := hM.lt _ hs
      omega
    · rw [hkept h1, hkept h2] at e
      obtain ⟨s, hs⟩ := hkin h1
      obtain ⟨s', hs'⟩ := hkin h2
      rw [hg hs, hg hs'] at e
      subst e
      exact ren_inj hM.ok hs hs'
  -- the objects behind the call
  have hTn : ∀ {o}, T o → o < n' + out.heap.length := by
    rintro o (⟨r, hw, rfl⟩ | ⟨i, hw, rfl⟩)
    · obtain ⟨s, hs⟩ := hM.live r (writable_live hw)
      rw [hg hs]
      have : s < n + M.news := hM.lt _ hs
      omega
    · have hi := hlt' (writable_live hw)
      cases h1 : kept sg out i
      · rw [hunkept h1]; omega
      · rw [hkept h1]
        obtain ⟨s, hs⟩ := hkin h1
        rw [hg hs]
        have : s < n + M.news := hM.lt _ hs
        omega
  have hsplit : hsets H sets = hset (hsets (hsets (hsets H (frost H M.frz)) (deadGiven sg M.ren)) (outSets sg out.stay M.ren n' nv out.nv 0 out.heap)) (n' + out.heap.length) .dead := by
    rw [hsets', hsets_append, hsets_append, hsets_append]; rfl
  have hout' : ∀ {i}, writable (hget out.heap i) → hget (hsets H sets) (g' i) = (hget out.heap i).mapv f' g' := by
    intro i hw
    rw [hsplit, hget_hset, if_neg (by have := hTn (.inr ⟨i, hw, rfl⟩); omega)]
    refine hget_hsets_mem (outSets_mem.2 ⟨i, isWr_iff.2 hw, by simp only [Nat.zero_add]; rfl, rfl⟩) fun ob' h' => ?_
    obtain ⟨k, h1, h2, h3⟩ := outSets_mem.1 h'
    simp only [Nat.zero_add] at h2
    have : i = k := hginj (writable_live hw) (writable_live (isWr_iff.1 h1)) h2
    subst this; exact h3
  have hrest : ∀ {o}, (∀ i, writable (hget out.heap i) → g' i ≠ o) → o ≠ n' + out.heap.length → hget (hsets H sets) o = hget (hsets (hsets H (frost H M.frz)) (deadGiven sg M.ren)) o := by
    intro o ho hne
    rw [hsplit, hget_hset, if_neg hne]
    refine hget_hsets_out _ _ _ fun q hq e => ?_
    obtain ⟨k, h1, h2, h3⟩ := outSets_mem.1 hq
    simp only [Nat.zero_add] at h2
    exact ho k (isWr_iff.1 h1) (by rw [← e]; exact h2.symm)
  have hlaid : Laid P ρ H3 sg.heap g m2 m' rs out.heap m1 (hsets H sets) f' g' T := by
    refine ⟨fun i => outVar_den hlen hrs i, fun o p hp => ?_, fun i p hp => ?_, fun r hw => .inl ⟨r, hw, rfl⟩, ?_, ?_, fun i hw => ⟨.inr ⟨i, hw, rfl⟩, hout' hw⟩, fun o ht => ?_⟩
    · show mOut sg out m2 m1 n' o = _
      unfold mOut
      split
      · rename_i hh
        have hm : m2 o = m o := by show m2Of m n M.news o = _; unfold m2Of; rw [if_neg (by omega)]
        rw [hm, hf o (by omega) (by omega)] at hp; cases hp
      · exact hp
    · show mOut sg out m2 m1 n' (g' i) = _
      have hi : i < out.heap.length := by
        by_cases hlt : i < out.heap.length
        · exact hlt
        · rw [hr.none i (hget_none (by omega))] at hp; cases hp
      cases h1 : kept sg out i
      · rw [hunkept h1]
        unfold mOut
        rw [if_pos ⟨by omega, by omega, by rw [Nat.add_sub_cancel_left]; exact h1⟩, Nat.add_sub_cancel_left]
        exact hp
      · rw [hkept h1]
        obtain ⟨s, hs⟩ := hkin h1
        rw [hg hs]
        have hlt : s < n + M.news := hM.lt _ hs
        unfold mOut
        rw [if_neg (by omega)]
        have h1' := h1
        simp only [kept, Bool.and_eq_true, decide_eq_true_eq, Bool.or_eq_true] at h1'
        have hst := hr.stay i h1'.1 (h1'.2.imp id List.contains_iff_mem.1) (fun e => by rw [hr.none i e] at hp; cases hp)
        rw [hst, hM.mp hs] at hp
        exact hp
    · rintro o (⟨r, hw, rfl⟩ | ⟨i, hw, rfl⟩) hl
      · exact ⟨r, rfl, hw⟩
      · cases h1 : kept sg out i
        · exfalso
          rw [hunkept h1] at hl
          refine hl ?_
          have e1 : hget H3 (n' + i) = hget H2 (n' + i) := hget_hsets_out _ _ _ fun q hq e => by
            obtain ⟨r', e', c', wr', g1, g2, g3, g4⟩ := newRows_mem.1 hq
            have : q.1 < n + M.news := hM.lt _ g1
            omega
          rw [e1]
          have hfz := (FrozIn.frost H (frzAll sg M)).1 (n' + i)
          have hd : hget H (n' + i) = .dead := hget_none (by omega)
          rcases hfz with e2 | ⟨_, _, _, e2, _⟩
          · exact e2.trans hd
          · rw [hd] at e2; cases e2
        · exact ⟨i, (hkept h1).symm, hkw h1 hw⟩
    · intro o ht hl
      by_cases hx : ∃ i, writable (hget out.heap i) ∧ g' i = o
      · obtain ⟨i, hw, rfl⟩ := hx
        exact ⟨i, rfl, hout' hw, hw⟩
      · exfalso
        rcases ht with ⟨r, hw, rfl⟩ | hh
        · refine hl ?_
          rw [hrest (fun i hw e => hx ⟨i, hw, e⟩) (by have := hTn (.inl ⟨r, hw, rfl⟩); omega)]
          obtain ⟨s, hs⟩ := hM.live r (writable_live hw)
          rw [hg hs]
          refine hget_hsets_mem (deadGiven_mem.2 ⟨r, hs, isWr_iff.2 hw, rfl⟩) fun ob' h' => ?_
          obtain ⟨_, _, _, h3⟩ := deadGiven_mem.1 h'
          exact h3
        · exact hx hh
    · -- what is not touched
      have hno : ∀ q ∈ M.ren, writable (hget sg.heap q.1) → q.2 ≠ o := fun q hq hw e => ht (.inl ⟨q.1, hw, by rw [hg (show (q.1, q.2) ∈ M.ren from hq)]; exact e⟩)
      have e3 : hget H3 o = hget H2 o := hget_hsets_out _ _ _ fun q hq e => by
        obtain ⟨r', e', c', wr', g1, g2, g3, g4⟩ := newRows_mem.1 hq
        exact hno _ g1 (by rw [g3]; trivial) e
      have e2 : hget H2 o = hget (hsets H (frost H M.frz)) o := by
        refine hget_frost_congr ⟨fun hin => ?_, fun hin => List.mem_append_left _ hin⟩
        rcases List.mem_append.1 hin with hin | hin
        · exact hin
        · obtain ⟨q, hq, e5⟩ := List.mem_map.1 hin
          obtain ⟨hq1, hq2⟩ := List.mem_filter.1 hq
          refine (hno q hq1 ?_ e5).elim
          split at hq2
          · rename_i e6; rw [e6]; trivial
          · cases hq2
      rw [e3, e2]
      by_cases hp : o = n' + out.heap.length
      · have hd : hget H o = .dead := hget_none (by omega)
        rw [hsplit, hget_hset, if_pos hp]
        rcases (FrozIn.frost H M.frz).1 o with e4 | ⟨_, _, _, e4, _⟩
        · exact (e4.trans hd).symm
        · rw [hd] at e4; cases e4
      · rw [hrest (fun i hw e => ht (.inr ⟨i, hw, e⟩)) hp]
        refine hget_hsets_out _ _ _ fun q hq e => ?_
        obtain ⟨r, g1, g2, _⟩ := deadGiven_mem.1 hq
        exact hno _ g1 (isWr_iff.1 g2) e
  obtain ⟨hS', hk', hav'⟩ := hS3.laid hlk hr.sim hlaid
  refine ⟨v, m', rfl, hS', Pl.le_trans (m2Of_le hf2) hlaid.le, hk3.trans hk', ?_, fun o ho => ?_⟩
  · rw [RepS.map hlaid.den, ← hav']
    exact RepS.keeps (KeepsAv.refl _ _) (fun i p hp => hlaid.new i p hp) _ hr.val
  · show mOut sg out m2 m1 n' o = _
    unfold mOut
    rw [if_neg (by omega)]
    show m2Of m n M.news o = _
    unfold m2Of
    rw [if_neg (by omega)]
end
end Go.RX
namespace Go.RX

section
variable {P : Program} {w w' : World} {av av' : Av} {m m' : Pl} {ρ : List D} {C : Ctx}

theorem flat_one {t : TypeId} (hf : ((intKind P t).isSome || isBool P t || isStr P t) = true) {v : Value} {d : D} (h : Rep P w av t v d) : Rep P w' av' t v d := by
  cases h with
  | bool h => exact .bool h
  | int h a b => exact .int h a b
  | str h a => exact .str h a
  | agg h l => rcases isAg_cases h with ⟨_, hx⟩ | ⟨_, _, hx⟩ <;> simp [intKind, isBool, isStr, hx] at hf
  | nil h => simp [intKind, isBool, isStr, h] at hf
  | sl h => simp [intKind, isBool, isStr, h] at hf
theorem flat_list : ∀ {ts : List TypeId}, (ts.all fun u => (intKind P u).isSome || isBool P u || isStr P u) = true → ∀ {vs : List Value} {ds : List D}, RepL P w av ts vs ds → RepL P w' av' ts vs ds
  | _, _, _, _, .nil => .nil
  | t :: ts, hf, _, _, .cons r l => by
    rw [List.all_cons, Bool.and_eq_true] at hf
    exact .cons (flat_one hf.1 r) (flat_list hf.2 l)
theorem flat_rep {t : TypeId} (hf : flatTy C t = true) {v : Value} {d : D} (h : Rep C.P w av t v d) : Rep C.P w' av' t v d := by
  by_cases hag : isAg C.P t = true
  · cases h with
    | agg h l => exact .agg h (flat_list hf l)
    | bool h => rcases isAg_cases hag with ⟨_, hx⟩ | ⟨_, _, hx⟩ <;> simp [hx] at h
    | int h => rcases isAg_cases hag with ⟨_, hx⟩ | ⟨_, _, hx⟩ <;> simp [hx] at h
    | str h => rcases isAg_cases hag with ⟨_, hx⟩ | ⟨_, _, hx⟩ <;> simp [hx] at h
    | nil h => rcases isAg_cases hag with ⟨_, hx⟩ | ⟨_, _, hx⟩ <;> simp [hx] at h
    | sl h => rcases isAg_cases hag with ⟨_, hx⟩ | ⟨_, _, hx⟩ <;> simp [hx] at h
  · have hag' : isAg C.P t = false := by simpa using hag
    unfold flatTy at hf
    rw [cellTys_one hag'] at hf
    exact flat_one (by simpa using hf) h
mutual
theorem flat_repS : ∀ (s : SV), flatSV C s = true → ∀ {v : Value}, RepS C.P w av m ρ s v → RepS C.P w' av' m' ρ s v
  | .x a t, hf, _, h => by simp only [RepS] at h ⊢; exact flat_rep hf h
  | .nilp, _, _, h | .nili, _, _, h | .ifv, _, _, h => by simpa [RepS] using h
  | .nil, _, _, h => by simp [RepS] at h
  | .cons _ _, _, _, h => by simp [RepS] at h
  | .agg cs, hf, _, h => by
    simp only [RepS] at h ⊢
    obtain ⟨vs, h1, h2⟩ := h
    exact ⟨vs, h1, flat_repSL cs hf h2⟩
  | .tup cs, hf, _, h => by
    simp only [RepS] at h ⊢
    obtain ⟨vs, h1, h2⟩ := h
    exact ⟨vs, h1, flat_repSL cs hf h2⟩
  | .any, hf, _, _ | .undef, hf, _, _ | .own _, hf, _, _ | .ptr _ _, hf, _, _ | .nils, hf, _, _ | .full _ _, hf, _, _ | .iptr _ _ _, hf, _, _ | .rptr _ _ _ _, hf, _, _ | .clo _ _ _, hf, _, _ | .nilf, hf, _, _ | .lits _, hf, _, _ | .lptr _, hf, _, _ | .mp _, hf, _, _ => by simp [flatSV] at hf
theorem flat_repSL : ∀ (s : SV), flatSV C s = true → ∀ {vs : List Value}, RepSL C.P w av m ρ s vs → RepSL C.P w' av' m' ρ s vs
  | .nil, _, _, h => by simpa [RepSL] using h
  | .cons a b, hf, _, h => by
    simp only [flatSV, Bool.and_eq_true] at hf
    simp only [RepSL] at h ⊢
    obtain ⟨v, r, h1, h2, h3⟩ := h
    exact ⟨v, r, h1, flat_repS a hf.1 h2, flat_repSL b hf.2 h3⟩
  | .x _ _, _, _, h | .nilp, _, _, h | .nili, _, _, h | .ifv, _, _, h | .agg _, _, _, h | .tup _, _, _, h => by simp [RepSL] at h
  | .any, hf, _, _ | .undef, hf, _, _ | .own _, hf, _, _ | .ptr _ _, hf, _, _ | .nils, hf, _, _ | .full _ _, hf, _, _ | .iptr _ _ _, hf, _, _ | .rptr _ _ _ _, hf, _, _ | .clo _ _ _, hf, _, _ | .nilf, hf, _, _ | .lits _, hf, _, _ | .lptr _, hf, _, _ | .mp _, hf, _, _ => by simp [flatSV] at hf
end

/-- No block that was there has turned. -/
theorem Sim.still {B : Base} {H : List SObj} (h : Sim P B ρ H m w) (hx : Ext (fun _ => False) w w') : Sim P B ρ H m w' ∧ KeepsAv (avOf P m ρ B.fr H) w w' (avOf P m ρ B.fr H) := by
  have hk : KeepsAv (avOf P m ρ B.fr H) w w' (avOf P m ρ B.fr H) := by
    intro b off v hv ha
    have hb : b < w.heap.size := World.block_lt_of_cell? w ⟨b, off, none⟩ hv
    exact ⟨by rw [cell?_of_heap_eq (hx.block b hb (fun f => f))]; exact hv, ha⟩
  refine ⟨h.update (fun _ => False) (fun _ _ => rfl) (Pl.le_refl m) (fun _ _ => rfl) hk ?_ (fun _ hU => hU.elim) (fun _ _ _ hU => hU.elim) (fun _ _ _ _ _ hU => hU.elim), hk⟩
  exact ⟨hx.os, hx.tape, hx.output, hx.size, fun b hb _ => hx.block b hb (fun f => f)⟩

variable {B : Base} {H : List SObj} {n : Nat} {as : List SV} {sg : Sig} {xs : List X} {M : MSt}
theorem Con.still {f : FuncId} {F : List D → Option (Nat × List D)} {W0 : World} (hcon : Con C.P W0 f sg F) (hB : Under W0 B) (hst : stillSig C sg = true) (hnews : M.news = 0) (h : Sim C.P B ρ H m w) (hM : Matched C.P 0 sg.nv sg.params as sg.heap H n [] xs M) (hH : H.length ≤ n)
    {j : Nat} {rs : List D} {out : SOut} (hF : F (xs.map (·.den ρ)) = some (j, rs)) (hout : sg.outs[j]? = some out) {nv : Nat} (hrs : ∀ i, i < out.nv → ρ.getD (nv + i) default = rs.getD i default)
    {g' : Nat → Nat} {args : List Value} (hargs : RepSs C.P w (avOf C.P m ρ B.fr H) m ρ as args) :
    Calls C.P f args.toArray w fun e w' => ∃ v m', e = .returned v ∧ Goes C.P B ρ H m w n [] (out.res.map (outVar nv out.nv) g') m' w' v := by
  obtain ⟨out', ho', hlen⟩ := hcon.shape _ _ _ hF
  rw [hout] at ho'; cases ho'
  obtain ⟨hS3, hk3, hlk, hpar⟩ := hM.given h hH (fun o h1 h2 => by omega)
  have hSp := hS3.given hlk
  have hav := av_given hlk
  have hnone : ∀ o, sg.heap.length ≤ o → mpOf (m2Of m n M.news) M.ren o = none := fun o ho => mpOf_none fun s hs => hM.named _ hs (hget_none ho)
  refine (hcon.calls _ _ _ w args j rs out (hB.given hS3 hlk) (by simp [hM.len]) hSp hnone (by rw [hav]; exact hpar args hargs) hF hout).mono ?_
  rintro e w' ⟨v, m1, rfl, hr⟩
  simp only [stillSig, Bool.and_eq_true, List.all_eq_true] at hst
  have hflat := (hst.2 out (List.mem_of_getElem? hout)).1
  have hnw : ∀ r, ¬ writable (hget sg.heap r) := by
    intro r hw
    have hl := writable_live hw
    have hlt : r < sg.heap.length := by
      by_cases hlt : r < sg.heap.length
      · exact hlt
      · exact (hl (hget_none (by omega))).elim
    have := hst.1 (hget sg.heap r) (by
      have e1 : hget sg.heap r = sg.heap[r] := by simp [hget, hlt]
      rw [e1]; exact List.getElem_mem hlt)
    revert this hw
    cases hget sg.heap r <;> simp [writable]
  have hx0 := hr.sim.ext
  have hx : Ext (fun _ => False) w w' := ⟨hx0.os, hx0.tape, hx0.output, hx0.size, fun b hb _ => hx0.block b hb (fun ⟨r, p, hw, _⟩ => hnw r hw)⟩
  obtain ⟨hS', hk'⟩ := h.still hx
  refine ⟨v, m, rfl, hS', Pl.le_refl m, hk', ?_, fun _ _ => rfl⟩
  rw [RepS.map (outVar_den hlen hrs)]
  exact flat_repS _ hflat hr.val
end
end Go.RX
namespace Go.RX

/-! Trees. -/
section
variable {Φ : Nat → List D → Option (Nat × List D)}
theorem ofAlts_den : ∀ (ts : List T) (j : Nat) (ρ : List D), (T.ofAlts ts).den Φ j ρ = match ts[j]? with | some t => t.den Φ 0 ρ | none => none
  | [], j, ρ => by simp [T.ofAlts, T.den]
  | t :: ts, 0, ρ => by simp [T.ofAlts, T.den]
  | t :: ts, j + 1, ρ => by simp [T.ofAlts, T.den, ofAlts_den ts j ρ]
theorem lfs_den {k j : Nat} {ρ : List D} {r : Nat × List D} (h : (T.ofAlts ((List.range k).map .lf)).den Φ j ρ = some r) : j < k ∧ r = (j, ρ) := by
  rw [ofAlts_den] at h
  by_cases hj : j < k
  · simp [hj, T.den] at h; exact ⟨hj, h.symm⟩
  · simp [List.getElem?_eq_none (show (List.range k).length ≤ j by simp; omega)] at h
theorem toBool_true {d : D} (h : d.toBool = true) : d = .bool true := by cases d <;> simp_all [D.toBool]

/-- the lists say the same below n -/
def Agree (n : Nat) (ρ ρ' : List D) : Prop := ∀ i, i < n → ρ'.getD i default = ρ.getD i default
theorem chks_true : ∀ {l : List X} {n : Nat} {ρ0 ρf : List D} {r : Nat × List D}, (T.chks l (.lf 0)).den Φ 0 ρ0 = some r → (T.chks l (.lf 0)).closed n = true → Agree n ρ0 ρf → r = (0, ρ0) ∧ ∀ c ∈ l, c.den ρf = .bool true
  | [], n, ρ0, ρf, r, h, _, _ => by
    simp only [T.chks, T.den, Option.some.injEq] at h
    exact ⟨h.symm, by simp⟩
  | c :: l, n, ρ0, ρf, r, h, hc, ha => by
    simp only [T.chks, T.mkChk] at h hc
    split at h
    · obtain ⟨h1, h2⟩ := chks_true h hc ha
      refine ⟨h1, fun c hcm => ?_⟩
      rcases List.mem_cons.1 hcm with e | hcm
      · subst e; rfl
      · exact h2 c hcm
    · rename_i hne
      simp only [T.closed, Bool.and_eq_true] at hc
      simp only [T.den] at h
      cases hb : (c.den ρ0).toBool with
      | false => rw [hb] at h; simp at h
      | true =>
        rw [hb] at h
        obtain ⟨h1, h2⟩ := chks_true h hc.2 ha
        refine ⟨h1, fun x hcm => ?_⟩
        rcases List.mem_cons.1 hcm with e | hcm
        · subst e
          rw [X.closed_den ha _ hc.1]; exact toBool_true hb
        · exact h2 x hcm
end

/-! Runes. -/
theorem decode_facts (s : ByteArray) (i : Nat) (h : i < s.size) : 1 ≤ (Utf8.decode s i).2 ∧ i + (Utf8.decode s i).2 ≤ s.size ∧ (Utf8.decode s i).1 < 2147483648 := by
  have hb : ∀ k, (s.get! (i + k)).toNat < 256 := fun k => UInt8.toNat_lt _
  have h0 := hb 0
  have h1 := hb 1
  have h2 := hb 2
  have h3 := hb 3
  unfold Utf8.decode
  simp only
  have hre : Utf8.runeError < 2147483648 := by decide
  split
  · exact ⟨by simp, by simp only; omega, by simp only; omega⟩
  · split
    · rename_i hc
      simp only [Bool.and_eq_true, decide_eq_true_eq] at hc
      split
      · exact ⟨by simp, by simp only; omega, by simp only; omega⟩
      · exact ⟨by simp, by simp only; omega, hre⟩
    · split
      · rename_i hc
        simp only [Bool.and_eq_true, decide_eq_true_eq] at hc
        split
        · exact ⟨by simp, by simp only; omega, by simp only; omega⟩
        · exact ⟨by simp, by simp only; omega, hre⟩
      · split
        · rename_i hc
          simp only [Bool.and_eq_true, decide_eq_true_eq] at hc
          split
          · exact ⟨by simp, by simp only; omega, by simp only; omega⟩
          · exact ⟨by simp, by simp only; omega, hre⟩
        · exact ⟨by simp, by simp only; omega, hre⟩

section
variable {P : Program} {B : Base} {ρ : List D} {w w' : World} {m m' : Pl} {H : List SObj} {n : Nat}

/-- A string's iterator goes on. -/
theorem Sim.iterOn (h : Sim P B ρ H m w) {r : Nat} {sx px qx : X} (hr : hget H r = .siter sx px) {b : Nat} {l : List UInt8} {k : Nat} (hm : m r = some ⟨some b, .pointer (some ⟨b, 0, none⟩)⟩)
    (hs : sx.den ρ = .str l) (hq : qx.den ρ = .int (k : Int)) (hl : (l.length : Int) ≤ 9223372036854775807) (hb : b < w.heap.size) :
    Sim P B ρ (hset H r (.siter sx qx)) m { w with heap := w.heap.setIfInBounds b (.stringIter ⟨l.toArray⟩ k) } ∧
      KeepsAv (avOf P m ρ B.fr H) w { w with heap := w.heap.setIfInBounds b (.stringIter ⟨l.toArray⟩ k) } (avOf P m ρ B.fr (hset H r (.siter sx qx))) := by
  have hav : avOf P m ρ B.fr (hset H r (.siter sx qx)) = avOf P m ρ B.fr H := by
    funext c off
    apply propext
    constructor
    · rintro (hF | ⟨o, p, h1, h2, h3⟩)
      · exact .inl hF
      · refine .inr ⟨o, p, h1, h2, ?_⟩
        rw [hget_hset] at h3
        split at h3
        · rename_i e; subst e; rw [hr]; trivial
        · exact h3
    · rintro (hF | ⟨o, p, h1, h2, h3⟩)
      · exact .inl hF
      · refine .inr ⟨o, p, h1, h2, ?_⟩
        rw [hget_hset]
        split
        · trivial
        · exact h3
  have hblk : ∀ c, c ≠ b → ({ w with heap := w.heap.setIfInBounds b (.stringIter ⟨l.toArray⟩ k) } : World).heap[c]? = w.heap[c]? := by
    intro c hc
    simp only [Array.getElem?_setIfInBounds]
    rw [if_neg (Ne.symm hc)]
  have hk : KeepsAv (avOf P m ρ B.fr H) w { w with heap := w.heap.setIfInBounds b (.stringIter ⟨l.toArray⟩ k) } (avOf P m ρ B.fr (hset H r (.siter sx qx))) := by
    rw [hav]
    intro c off v hv ha
    have hc : c ≠ b := fun e => ha (.inr ⟨r, _, hm, by rw [e], by rw [hr]; trivial⟩)
    exact ⟨by rw [cell?_of_heap_eq (hblk c hc)]; exact hv, ha⟩
  refine ⟨h.update (fun o => o = r) (fun o ho => by rw [hget_hset, if_neg ho]) (Pl.le_refl m) (fun _ _ => rfl) hk ?_ ?_ ?_ ?_, hk⟩
  · exact ⟨rfl, rfl, rfl, by simp, fun c hc hn => hblk c (fun e => hn ⟨r, _, rfl, by rw [hr]; trivial, hm, by rw [e]⟩)⟩
  · rintro o rfl
    rw [hm, hget_hset, if_pos rfl]
    exact ⟨b, l, k, rfl, hs, hq, by omega, hl, by simp [hb]⟩
  · rintro o p c rfl _ hp hpb
    exact .inr ⟨o, p, rfl, by rw [hr]; trivial, hp, hpb⟩
  · rintro o o' p p' c rfl rfl _ _ _ _ _ _; rfl
end

/-- All contracts are kept. -/
def Kept (C : Ctx) (W0 : World) (Φ : Nat → List D → Option (Nat × List D)) : Prop := ∀ c ∈ C.cs, Con C.P W0 c.f c.sg (Φ c.cid)

section
variable {C : Ctx} {Φ : Nat → List D → Option (Nat × List D)} {S : SSt} {n : Nat} {o : Oper}

theorem argVals_rep {B : Base} {ρ : List D} {a : Act} {w : World} {m : Pl} (hM : Mod C.P B ρ S a w m) : ∀ (as : List Operand) (ts : List TypeId), RepSs C.P w (avOf C.P m ρ B.fr S.heap) m ρ (argVals C S as ts) (as.map a.eval)
  | [], _ => trivial
  | x :: as, ts => ⟨opv_rep hM x _, argVals_rep hM as ts.tail⟩

/-- What a step is to do. -/
def StepOk (C : Ctx) (W0 : World) (S : SSt) (n : Nat) (o : Oper) (ds : List Diff) (ρ0 : List D) (j : Nat) (ρ1 : List D) : Prop :=
  ∃ d more, ds[j]? = some d ∧ ρ1 = ρ0 ++ more ∧ ρ1.length = d.nv ∧
    ∀ (B : Base) (ρf : List D) (a : Act) (w : World) (m : Pl), Under W0 B → Agree ρ1.length ρ1 ρf → Mod C.P B ρf S a w m → S.heap.length ≤ n → setsOk S.heap n d.sets = true →
      (∀ q, n ≤ q → q < (hsets S.heap d.sets).length → m q = none) →
      ∀ (K : Act → World → Prop) (Q : Exit → Act → World → Prop), (∀ v m' w', Goes C.P B ρf S.heap m w n d.sets d.val m' w' v → K (a.put o.dst v) w') → o.wp C.P a w K Q

theorem agree_app {ρ0 more ρf : List D} (h : Agree (ρ0 ++ more).length (ρ0 ++ more) ρf) : Agree ρ0.length ρ0 ρf := by
  intro i hi
  rw [h i (by rw [List.length_append]; omega), List.getD_eq_getElem?_getD, List.getD_eq_getElem?_getD, List.getElem?_append_left hi]

theorem xofL_den (ρ : List D) : ∀ (xs : List X), ((X.ofL xs).den ρ).aggL = xs.map (·.den ρ)
  | [] => rfl
  | x :: xs => by
    have := xofL_den ρ xs
    simp only [X.ofL, X.den, aggL_agg, List.map_cons, this]
theorem xofL_closed {n : Nat} : ∀ {xs : List X}, (X.ofL xs).closed n = true → ∀ x ∈ xs, x.closed n = true
  | [], _, x, h => by simp at h
  | y :: xs, hc, x, h => by
    simp only [X.ofL, X.closed, Bool.and_eq_true] at hc
    rcases List.mem_cons.1 h with rfl | h
    · exact hc.1
    · exact xofL_closed hc.2 x h

theorem run_callFunc {P : Program} {f : FuncId} (h : callOk P f = true) (args : Array Value) (w : World) : (callFunc f args).run P w = .ok (.enter f args) w := by
  unfold callOk at h
  split at h
  · rename_i fn hf
    simp only [Bool.and_eq_true, bne_iff_ne, ne_eq] at h
    simp [callFunc, Sem.run, program, hf, h.1, Option.isNone_iff_eq_none, Option.isSome_iff_ne_none.1 h.2]
  · cases h
end
end Go.RX
namespace Go.RX

section
variable {C : Ctx} {W0 : World} {Φ : Nat → List D → Option (Nat × List D)} {S : SSt} {n : Nat} {o : Oper}

theorem symOp_step {r : Out} {ρ0 ρ1 : List D} {j : Nat} (h : symOp C.P S n o = some r) (hcl : (T.chks r.chks (.lf 0)).closed S.nv = true) (hlen : ρ0.length = S.nv)
    (hden : (T.chks r.chks (.lf 0)).den Φ 0 ρ0 = some (j, ρ1)) : StepOk C W0 S n o [{ val := r.val, sets := r.sets, nv := S.nv }] ρ0 j ρ1 := by
  obtain ⟨e, _⟩ := chks_true hden hcl (ρf := ρ0) (fun _ _ => rfl)
  cases e
  refine ⟨_, [], rfl, by simp, hlen, ?_⟩
  intro B ρf a w m hB hag hM hn hso hf K Q hK
  obtain ⟨_, hc⟩ := chks_true hden hcl (ρf := ρf) (hlen ▸ hag)
  have hn' : (∃ q ∈ r.sets, q.1 = n) → m n = none := fun ⟨q, hq, e⟩ => hf n (Nat.le_refl _) (by rw [← e]; exact (length_hsets r.sets S.heap).2 q hq)
  obtain ⟨v, w', m', hrun, hst⟩ := symOp_ok hM hn' h hc
  have hg := hst.goes hM.sim hso
  have := hK v m' w' hg
  unfold Oper.wp
  rcases hrun with e | ⟨e, rfl⟩
  · rw [e, Oper.upon_value]; exact this
  · rw [e, Oper.upon_skip]; exact this

theorem next_step {it : Operand} {r : Nat} {sx px : X} {ρ0 ρ1 : List D} {j : Nat} (hop : o.op = .next it true) (hit : opv C.P S it 0 = .ptr r 0) (hr : hget S.heap r = .siter sx px)
    (hty : isBool C.P C.P.rt.bool = true ∧ intKind C.P C.P.rt.int = some .i64 ∧ intKind C.P C.P.rt.rune = some .i32)
    (hcl : (T.ite (.cmp .lss px (.slen sx)) (.lf 0) (.lf 1)).closed S.nv = true) (hlen : ρ0.length = S.nv)
    (hden : (T.ite (.cmp .lss px (.slen sx)) (.lf 0) (.lf 1)).den Φ 0 ρ0 = some (j, ρ1)) :
    StepOk C W0 S n o [{ val := .tup (.ofL [.x (.bool true) C.P.rt.bool, .x px C.P.rt.int, .x (.ruc sx px) C.P.rt.rune]), sets := [(r, .siter sx (.bin .add .i64 px (.ruw sx px)))], nv := S.nv },
             { val := .tup (.ofL [.x (.bool false) C.P.rt.bool]), nv := S.nv }] ρ0 j ρ1 := by
  simp only [T.closed, Bool.and_eq_true] at hcl
  have hcx := hcl.1.1
  simp only [T.den] at hden
  have run : ∀ {B : Base} {ρf : List D} {a : Act} {w : World} {m : Pl}, Mod C.P B ρf S a w m → ∃ b l k, a.eval it = .pointer (some ⟨b, 0, none⟩) ∧ m r = some ⟨some b, .pointer (some ⟨b, 0, none⟩)⟩ ∧
      sx.den ρf = .str l ∧ px.den ρf = .int k ∧ 0 ≤ k ∧ (l.length : Int) ≤ 9223372036854775807 ∧ w.heap[b]? = some (.stringIter ⟨l.toArray⟩ k.toNat) := by
    intro B ρf a w m hM
    have hv := opv_rep hM it 0
    rw [hit] at hv
    simp only [RepS] at hv
    obtain ⟨p, b, hp, hpv, hv⟩ := hv
    have hok := hM.sim.ok r
    rw [hr] at hok
    obtain ⟨b', l, k, g1, g2, g3, g4, g5, g6⟩ := hok
    rw [hp] at g1
    cases g1
    simp only [Value.pointer.injEq, Option.some.injEq] at hpv
    cases hpv
    exact ⟨b, l, k, hv, hp, g2, g3, g4, g5, g6⟩
  cases hb : ((X.cmp .lss px (.slen sx)).den ρ0).toBool with
  | true =>
    rw [hb] at hden
    cases hden
    refine ⟨_, [], rfl, by simp, hlen, ?_⟩
    intro B ρf a w m hB hag hM hn hso hf K Q hK
    obtain ⟨b, l, k, ev, hm, hs, hp, hk0, hl, hw⟩ := run hM
    rw [← X.closed_den (hlen ▸ hag) _ hcx] at hb
    have hlt : k.toNat < l.length := by
      simp only [X.den, hs, hp, D.toInt, D.toStr, D.toBool, cmpI, decide_eq_true_eq] at hb
      omega
    have hsz : (⟨l.toArray⟩ : ByteArray).size = l.length := by simp [ByteArray.size]
    obtain ⟨f1, f2, f3⟩ := decode_facts ⟨l.toArray⟩ k.toNat (by rw [hsz]; exact hlt)
    rw [hsz] at f2
    have hbs : b < w.heap.size := (Array.getElem?_eq_some_iff.1 hw).1
    have hq : (X.bin .add .i64 px (.ruw sx px)).den ρf = .int ((k.toNat + (Utf8.decode ⟨l.toArray⟩ k.toNat).2 : Nat) : Int) := by
      simp only [X.den, hp, hs, D.toInt, D.toStr, bytesArr, binI]
      congr 1
      rw [wrap_small]
      · omega
      · omega
      · omega
    obtain ⟨h1, h2⟩ := hM.sim.iterOn hr hm hs hq hl hbs
    unfold Oper.wp
    have hrun : (execOp a.eval o).run C.P w = .ok (.value (.tuple #[.bool true, .int .i64 k.toNat, .int .i32 (Utf8.decode ⟨l.toArray⟩ k.toNat).1])) { w with heap := w.heap.setIfInBounds b (.stringIter ⟨l.toArray⟩ (k.toNat + (Utf8.decode ⟨l.toArray⟩ k.toNat).2)) } := by
      unfold execOp
      rw [hop]
      dsimp only
      rw [ev]
      simp [Instr.next, getObj, setObj, Sem.run, hw, hsz, hlt, goInt, Result.andThen]
    rw [hrun, Oper.upon_value]
    refine hK _ m _ ⟨h1, Pl.le_refl m, h2, ?_, fun _ _ => rfl⟩
    simp only [RepS]
    refine ⟨_, rfl, repSL_ofL.2 ⟨?_, ?_, ?_, trivial⟩⟩
    · simp only [RepS, X.den]; exact .bool (isBool_eq.1 hty.1)
    · simp only [RepS, hp]
      rw [Int.toNat_of_nonneg hk0]
      exact .int (intKind_eq.1 hty.2.1) (by rw [show IntKind.i64.min = -9223372036854775808 from rfl]; omega) (by rw [show IntKind.i64.max = 9223372036854775807 from rfl]; omega)
    · simp only [RepS, X.den, hp, hs, D.toInt, D.toStr, bytesArr]
      exact .int (intKind_eq.1 hty.2.2) (by rw [show IntKind.i32.min = -2147483648 from rfl]; omega) (by rw [show IntKind.i32.max = 2147483647 from rfl]; omega)
  | false =>
    rw [hb] at hden
    cases hden
    refine ⟨_, [], rfl, by simp, hlen, ?_⟩
    intro B ρf a w m hB hag hM hn hso hf K Q hK
    obtain ⟨b, l, k, ev, hm, hs, hp, hk0, hl, hw⟩ := run hM
    rw [← X.closed_den (hlen ▸ hag) _ hcx] at hb
    have hlt : ¬ k.toNat < l.length := by
      simp only [X.den, hs, hp, D.toInt, D.toStr, D.toBool, cmpI, decide_eq_false_iff_not] at hb
      omega
    have hsz : (⟨l.toArray⟩ : ByteArray).size = l.length := by simp [ByteArray.size]
    unfold Oper.wp
    have hrun : (execOp a.eval o).run C.P w = .ok (.value (.tuple #[.bool false])) w := by
      unfold execOp
      rw [hop]
      dsimp only
      rw [ev]
      simp [Instr.next, getObj, Sem.run, hw, hsz, hlt, Result.andThen]
    rw [hrun, Oper.upon_value]
    refine hK _ m _ ⟨hM.sim, Pl.le_refl m, KeepsAv.refl _ _, ?_, fun _ _ => rfl⟩
    simp only [RepS]
    refine ⟨_, rfl, repSL_ofL.2 ⟨?_, trivial⟩⟩
    simp only [RepS, X.den]; exact .bool (isBool_eq.1 hty.1)

theorem call_step (hC : Kept C W0 Φ) {g : Operand} {args : Array Operand} {tys : Array TypeId} (hop : o.op = .call { callee := .value g, args := args, argTypes := tys }) {f : FuncId} {first caps : SV} (hg : opv C.P S g 0 = .clo f first caps)
    {c : Ctr} (hc : c ∈ C.cs) (hcf : c.f = f) (_hSn : S.heap.length = n) {t : T} {ds : List Diff} (h : trySig C S n (first.toL ++ argVals C S args.toList tys.toList ++ caps.toL) c = some (t, ds))
    {ρ0 ρ1 : List D} {j : Nat} (hcl : t.closed S.nv = true) (hlen : ρ0.length = S.nv) (hden : t.den Φ 0 ρ0 = some (j, ρ1)) : StepOk C W0 S n o ds ρ0 j ρ1 := by
  subst hcf
  unfold trySig at h
  split at h
  rotate_left
  · cases h
  rename_i xs M hmat
  split at h
  rotate_left
  · cases h
  rename_i hchk
  simp only [Bool.and_eq_true, Bool.or_eq_true, Bool.not_eq_true', beq_iff_eq] at hchk
  cases h
  have hcon := hC c hc
  have hMt := matchAll_matched hmat (by simp [RenOk])
  simp only [T.closed, Bool.and_eq_true] at hcl
  have hxc := xofL_closed hcl.1
  simp only [T.den, xofL_den] at hden
  rw [Option.bind_eq_some_iff] at hden
  obtain ⟨⟨j', rs⟩, hF, hden⟩ := hden
  obtain ⟨hj, e⟩ := lfs_den hden
  cases e
  obtain ⟨out, hout, hrl⟩ := hcon.shape _ _ _ hF
  refine ⟨outDiff C S c.sg M n out, rs, by simp [hout], rfl, by simp [outDiff, hrl, hlen], ?_⟩
  intro B ρf a w m hB hag hM hn hso hf K Q hK
  have hag0 := agree_app hag
  have hargs : xs.map (·.den ρf) = xs.map (·.den ρ0) := List.map_congr_left fun x hx => X.closed_den (hlen ▸ hag0) x (hxc x hx)
  have hrs : ∀ i, i < out.nv → ρf.getD (S.nv + i) default = rs.getD i default := by
    intro i hi
    rw [hag (S.nv + i) (by simp only [List.length_append, hlen, hrl]; omega), ← hlen, List.getD_eq_getElem?_getD, List.getElem?_append_right (by omega), Nat.add_sub_cancel_left, List.getD_eq_getElem?_getD]
  have hgv := opv_rep hM g 0
  rw [hg] at hgv
  simp only [RepS] at hgv
  obtain ⟨fs, cps, ev, hfs, hcps⟩ := hgv
  have hav : RepSs C.P w (avOf C.P m ρf B.fr S.heap) m ρf (first.toL ++ argVals C S args.toList tys.toList ++ caps.toL) (fs.toList ++ args.toList.map a.eval ++ cps.toList) :=
    ((repSL_toL _ hfs).append (argVals_rep hM args.toList tys.toList)).append (repSL_toL _ hcps)
  unfold Oper.wp
  have hrun : (execOp a.eval o).run C.P w = .ok (.enter c.f (fs.toList ++ args.toList.map a.eval ++ cps.toList).toArray) w := by
    unfold execOp
    rw [hop]
    dsimp only [resolve]
    rw [ev]
    simp only [Deferred.ofValue, Sem.run_bind, Sem.run_pure, Result.andThen_ok, invoke]
    rw [run_callFunc hcon.ok]
    congr 2
    simp
  rw [hrun, Oper.upon_enter]
  cases hst : stillSig C c.sg with
  | true =>
    have hnews := hchk.2.resolve_left (by simp [hst])
    refine (hcon.still hB hst hnews hM.sim hMt hn (hargs ▸ hF) hout hrs (g' := outId c.sg out.stay M.ren (n + M.news)) hav).mono ?_
    rintro e w' ⟨v, m', rfl, hG⟩
    refine hK v m' w' ?_
    simp only [outDiff, hst, if_true]
    exact hG
  | false =>
    refine (hcon.goes hB hchk.1 hM.sim hMt hn (hargs ▸ hF) hout hrs (sets := (outDiff C S c.sg M n out).sets) (by simp [outDiff, hst]) hf hav).mono ?_
    rintro e w' ⟨v, m', rfl, hG⟩
    exact hK v m' w' hG

theorem firstSig_mem {args : List SV} {f : FuncId} {t : T} {ds : List Diff} : ∀ {cs : List Ctr}, firstSig C S n f args cs = some (t, ds) → ∃ c ∈ cs, c.f = f ∧ trySig C S n args c = some (t, ds)
  | [], h => by simp [firstSig] at h
  | c :: cs, h => by
    unfold firstSig at h
    split at h
    · rename_i hf
      split at h
      · rename_i r hr
        cases h
        exact ⟨c, List.mem_cons_self .., by simpa using hf, hr⟩
      · obtain ⟨c', h1, h2⟩ := firstSig_mem h
        exact ⟨c', List.mem_cons_of_mem _ h1, h2⟩
    · obtain ⟨c', h1, h2⟩ := firstSig_mem h
      exact ⟨c', List.mem_cons_of_mem _ h1, h2⟩

theorem symStep_ok (hC : Kept C W0 Φ) {t : T} {ds : List Diff} (h : symStep C S n o = some (t, ds)) (hSn : S.heap.length = n) {ρ0 ρ1 : List D} {j : Nat} (hcl : t.closed S.nv = true) (hlen : ρ0.length = S.nv)
    (hden : t.den Φ 0 ρ0 = some (j, ρ1)) : StepOk C W0 S n o ds ρ0 j ρ1 := by
  unfold symStep at h
  split at h
  · rename_i g args tys hop
    split at h
    · rename_i f first caps hg
      obtain ⟨c, h1, h2, h3⟩ := firstSig_mem h
      exact call_step hC hop hg h1 h2 hSn h3 hcl hlen hden
    · cases h
  · rename_i it hop
    split at h
    · rename_i r hit
      split at h
      · rename_i sx px hr
        dsimp only at h
        split at h
        · rename_i hty
          simp only [Bool.and_eq_true, beq_iff_eq] at hty
          cases h
          exact next_step hop hit hr ⟨hty.1.1, hty.1.2, hty.2⟩ hcl hlen hden
        · cases h
      · cases h
    · cases h
  · split at h
    · rename_i r hr
      cases h
      exact symOp_step hr hcl hlen hden
    · cases h
end
end Go.RX
namespace Go.RX

/-! Trees: what is well formed. 'false': a tree; 'true': a list of goings-on. -/
def T.ok : Bool → T → Bool
  | false, .lf _ => true
  | false, .ite _ a b => a.ok false && b.ok false
  | false, .chk _ k => k.ok false
  | false, .call _ _ ks => ks.ok true
  | false, .bind _ ks => ks.ok true
  | false, .loop _ _ ks => ks.ok true
  | false, .nil => true
  | true, .alt k r => k.ok false && r.ok true
  | true, .nil => true
  | _, _ => false

section
variable {Φ : Nat → List D → Option (Nat × List D)}

theorem graft_den {f : Nat → T} : ∀ (t : T) (idx : Nat) (ρ : List D), (t.ok false = true → idx = 0 → (t.graft f).den Φ idx ρ = (t.den Φ idx ρ).bind fun r => (f r.1).den Φ 0 r.2) ∧
    (t.ok true = true → (t.graft f).den Φ idx ρ = (t.den Φ idx ρ).bind fun r => (f r.1).den Φ 0 r.2)
  | .lf i, idx, ρ => ⟨fun _ e => by subst e; rfl, fun h => by simp [T.ok] at h⟩
  | .y j xs, idx, ρ => ⟨fun h => by simp [T.ok] at h, fun h => by simp [T.ok] at h⟩
  | .ite c a b, idx, ρ => ⟨fun h _ => by
      simp only [T.ok, Bool.and_eq_true] at h
      simp only [T.graft, T.den]
      cases (c.den ρ).toBool
      · exact (graft_den b 0 ρ).1 h.2 rfl
      · exact (graft_den a 0 ρ).1 h.1 rfl, fun h => by simp [T.ok] at h⟩
  | .chk c k, idx, ρ => ⟨fun h _ => by
      simp only [T.ok] at h
      simp only [T.graft, T.den]
      cases (c.den ρ).toBool
      · rfl
      · exact (graft_den k 0 ρ).1 h rfl, fun h => by simp [T.ok] at h⟩
  | .call cid xs ks, idx, ρ => ⟨fun h _ => by
      simp only [T.ok] at h
      simp only [T.graft, T.den, Option.bind_assoc]
      congr 1
      funext r
      exact (graft_den ks r.1 _).2 h, fun h => by simp [T.ok] at h⟩
  | .bind s ks, idx, ρ => ⟨fun h _ => by
      simp only [T.ok] at h
      simp only [T.graft, T.den, Option.bind_assoc]
      congr 1
      funext r
      exact (graft_den ks r.1 _).2 h, fun h => by simp [T.ok] at h⟩
  | .loop i b ks, idx, ρ => ⟨fun h _ => by
      simp only [T.ok] at h
      simp only [T.graft, T.den, Option.bind_assoc]
      congr 1
      funext r
      cases r.1 with
      | zero => rfl
      | succ j => exact (graft_den ks j _).2 h, fun h => by simp [T.ok] at h⟩
  | .alt k r, idx, ρ => ⟨fun h => by simp [T.ok] at h, fun h => by
      simp only [T.ok, Bool.and_eq_true] at h
      cases idx with
      | zero => simp only [T.graft, T.den]; exact (graft_den k 0 ρ).1 h.1 rfl
      | succ j => simp only [T.graft, T.den]; exact (graft_den r j ρ).2 h.2⟩
  | .nil, idx, ρ => ⟨fun _ _ => by simp [T.graft, T.den], fun _ => by simp [T.graft, T.den]⟩
theorem graft_den' {f : Nat → T} {t : T} (h : t.ok false = true) (ρ : List D) : (t.graft f).den Φ 0 ρ = (t.den Φ 0 ρ).bind fun r => (f r.1).den Φ 0 r.2 := (graft_den t 0 ρ).1 h rfl
theorem shift_eq (n : Nat) : ∀ (t : T), t.shift n = t.graft fun i => .lf (i + n)
  | .lf i => rfl
  | .y j xs => rfl
  | .ite c a b => by simp only [T.shift, T.graft, shift_eq n a, shift_eq n b]
  | .chk c k => by simp only [T.shift, T.graft, shift_eq n k]
  | .call cid xs ks => by simp only [T.shift, T.graft, shift_eq n ks]
  | .bind s ks => by simp only [T.shift, T.graft, shift_eq n ks]
  | .loop i b ks => by simp only [T.shift, T.graft, shift_eq n ks]
  | .alt k r => by simp only [T.shift, T.graft, shift_eq n k, shift_eq n r]
  | .nil => rfl
theorem graft_ok {f : Nat → T} (hf : ∀ i, (f i).ok false = true) : ∀ (t : T) (b : Bool), t.ok b = true → (t.graft f).ok b = true
  | .lf i, b, h => by cases b <;> simp [T.ok] at h; exact hf i
  | .y j xs, b, h => by cases b <;> simp [T.ok] at h
  | .ite c x y, b, h => by
    cases b <;> simp [T.ok] at h
    simp [T.graft, T.ok, graft_ok hf x false h.1, graft_ok hf y false h.2]
  | .chk c k, b, h => by
    cases b <;> simp [T.ok] at h
    simp [T.graft, T.ok, graft_ok hf k false h]
  | .call cid xs ks, b, h => by
    cases b <;> simp [T.ok] at h
    simp [T.graft, T.ok, graft_ok hf ks true h]
  | .bind s ks, b, h => by
    cases b <;> simp [T.ok] at h
    simp [T.graft, T.ok, graft_ok hf ks true h]
  | .loop i s ks, b, h => by
    cases b <;> simp [T.ok] at h
    simp [T.graft, T.ok, graft_ok hf ks true h]
  | .alt k r, b, h => by
    cases b <;> simp [T.ok] at h
    simp [T.graft, T.ok, graft_ok hf k false h.1, graft_ok hf r true h.2]
  | .nil, b, h => by cases b <;> simp [T.graft, T.ok]
theorem shift_ok {t : T} {b : Bool} (h : t.ok b = true) (n : Nat) : (t.shift n).ok b = true := by
  rw [shift_eq]; exact graft_ok (fun _ => rfl) t b h
theorem shift_den {t : T} (h : t.ok false = true) (n : Nat) (ρ : List D) : (t.shift n).den Φ 0 ρ = (t.den Φ 0 ρ).map fun r => (r.1 + n, r.2) := by
  rw [shift_eq, graft_den' h]
  cases t.den Φ 0 ρ <;> rfl
theorem ofAlts_ok : ∀ {ts : List T}, (∀ t ∈ ts, t.ok false = true) → (T.ofAlts ts).ok true = true
  | [], _ => rfl
  | t :: ts, h => by simp [T.ofAlts, T.ok, h t (List.mem_cons_self ..), ofAlts_ok (fun t ht => h t (List.mem_cons_of_mem _ ht))]
theorem chks_ok : ∀ (l : List X), (T.chks l (.lf 0)).ok false = true
  | [] => rfl
  | c :: l => by
    simp only [T.chks, T.mkChk]
    split
    · exact chks_ok l
    · simp only [T.ok]; exact chks_ok l
theorem symStep_tok {C : Ctx} {S : SSt} {n : Nat} {o : Oper} {t : T} {ds : List Diff} (h : symStep C S n o = some (t, ds)) : t.ok false = true := by
  unfold symStep at h
  split at h
  · split at h
    · obtain ⟨c, _, _, h⟩ := firstSig_mem h
      unfold trySig at h
      split at h
      · split at h
        · cases h
          simp only [T.ok]
          exact ofAlts_ok fun t ht => by
            obtain ⟨i, _, rfl⟩ := List.mem_map.1 ht
            rfl
        · cases h
      · cases h
    · cases h
  · split at h
    · split at h
      · dsimp only at h
        split at h
        · cases h; rfl
        · cases h
      · cases h
    · cases h
  · split at h
    · cases h; exact chks_ok _
    · cases h

/-! Going on at the leaves. -/
section
variable {α β : Type}
theorem mapLeaves_get {f : α → Option (T × List β)} : ∀ {l : List α} {subs : List (T × List β)}, mapLeaves f l = some subs → ∀ (j : Nat), (∀ a, l[j]? = some a → ∃ r, subs[j]? = some r ∧ f a = some r) ∧ (l[j]? = none → subs[j]? = none)
  | [], subs, h, j => by simp [mapLeaves] at h; subst h; simp
  | a :: l, subs, h, j => by
    simp only [mapLeaves] at h
    split at h
    · rename_i x r h1 h2
      cases h
      cases j with
      | zero => exact ⟨fun b hb => by simp at hb; subst hb; exact ⟨x, rfl, h1⟩, fun hn => by simp at hn⟩
      | succ j => simpa using mapLeaves_get h2 j
    · cases h
theorem combine_get : ∀ {subs : List (T × List β)} {n : Nat} {j : Nat} {t1 : T} {l1 : List β}, subs[j]? = some (t1, l1) →
    ∃ k, (combine subs n).1[j]? = some (t1.shift (n + k)) ∧ ∀ (i : Nat) (x : β), l1[i]? = some x → (combine subs n).2[i + k]? = some x
  | [], n, j, t1, l1, h => by simp at h
  | (t, l) :: r, n, 0, t1, l1, h => by
    simp only [List.getElem?_cons_zero, Option.some.injEq, Prod.mk.injEq] at h
    obtain ⟨rfl, rfl⟩ := h
    refine ⟨0, by simp [combine], fun i x hi => ?_⟩
    simp only [combine, Nat.add_zero]
    rw [List.getElem?_append_left (List.getElem?_eq_some_iff.1 hi).1]; exact hi
  | (t, l) :: r, n, j + 1, t1, l1, h => by
    obtain ⟨k, h1, h2⟩ := combine_get (n := n + l.length) (by simpa using h)
    refine ⟨l.length + k, by simp only [combine, List.getElem?_cons_succ, h1]; rw [Nat.add_assoc], fun i x hi => ?_⟩
    have := h2 i x hi
    simp only [combine]
    rw [List.getElem?_append_right (by omega), show i + (l.length + k) - l.length = i + k by omega]
    exact this
theorem combine_ok : ∀ {subs : List (T × List β)} {n : Nat}, (∀ q ∈ subs, q.1.ok false = true) → ∀ t ∈ (combine subs n).1, t.ok false = true
  | [], n, _, t, h => by simp [combine] at h
  | (t0, l) :: r, n, hs, t, h => by
    simp only [combine, List.mem_cons] at h
    rcases h with rfl | h
    · exact shift_ok (hs _ (List.mem_cons_self ..)) n
    · exact combine_ok (fun q hq => hs q (List.mem_cons_of_mem _ hq)) t h
theorem mapLeaves_mem {f : α → Option (T × List β)} : ∀ {l : List α} {subs : List (T × List β)}, mapLeaves f l = some subs → ∀ q ∈ subs, ∃ a ∈ l, f a = some q
  | [], subs, h, q, hq => by simp [mapLeaves] at h; subst h; simp at hq
  | a :: l, subs, h, q, hq => by
    simp only [mapLeaves] at h
    split at h
    · rename_i x r h1 h2
      cases h
      rcases List.mem_cons.1 hq with rfl | hq
      · exact ⟨a, List.mem_cons_self .., h1⟩
      · obtain ⟨b, h3, h4⟩ := mapLeaves_mem h2 q hq
        exact ⟨b, List.mem_cons_of_mem _ h3, h4⟩
    · cases h
theorem getD_ok {ts : List T} (h : ∀ t ∈ ts, t.ok false = true) (i : Nat) : (ts.getD i .nil).ok false = true := by
  rw [List.getD_eq_getElem?_getD]
  cases hi : ts[i]? with
  | none => rfl
  | some t => exact h t (List.mem_of_getElem? hi)

/-- What goes on at a leaf. -/
theorem onLeaves_den {t : T} {l : List α} {f : α → Option (T × List β)} {t' : T} {l' : List β} (h : onLeaves t l f = some (t', l')) (ht : t.ok false = true) (hf : ∀ a ∈ l, ∀ r, f a = some r → r.1.ok false = true) :
    t'.ok false = true ∧ ∀ {ρ ρ' : List D} {j' : Nat}, t'.den Φ 0 ρ = some (j', ρ') → ∃ j ρ1, t.den Φ 0 ρ = some (j, ρ1) ∧
      ∀ a, l[j]? = some a → ∃ t1 l1 j1, f a = some (t1, l1) ∧ t1.den Φ 0 ρ1 = some (j1, ρ') ∧ ∀ x, l1[j1]? = some x → l'[j']? = some x := by
  unfold onLeaves at h
  split at h
  · rename_i subs hs
    simp only [Option.some.injEq, Prod.mk.injEq] at h
    obtain ⟨rfl, rfl⟩ := h
    have hok : ∀ q ∈ subs, q.1.ok false = true := fun q hq => by
      obtain ⟨a, h1, h2⟩ := mapLeaves_mem hs q hq
      exact hf a h1 q h2
    refine ⟨graft_ok (fun i => getD_ok (combine_ok hok) i) t false ht, ?_⟩
    intro ρ ρ' j' hd
    rw [graft_den' ht, Option.bind_eq_some_iff] at hd
    obtain ⟨⟨j, ρ1⟩, h1, h2⟩ := hd
    refine ⟨j, ρ1, h1, fun a ha => ?_⟩
    obtain ⟨⟨t1, l1⟩, h3, h4⟩ := (mapLeaves_get hs j).1 a ha
    obtain ⟨k, h5, h6⟩ := combine_get (n := 0) h3
    simp only [List.getD_eq_getElem?_getD, h5, Option.getD_some, Nat.zero_add] at h2
    have hok1 := hok _ (List.mem_of_getElem? h3)
    rw [shift_den hok1, Option.map_eq_some_iff] at h2
    obtain ⟨⟨j1, ρ2⟩, h7, h8⟩ := h2
    simp only [Prod.mk.injEq] at h8
    obtain ⟨rfl, rfl⟩ := h8
    exact ⟨t1, l1, j1, h4, h7, fun x hx => h6 j1 x hx⟩
  · cases h
end
end
end Go.RX
namespace Go.RX

/-- One operation on a way through a region. -/
structure Tr where
  i : Nat
  o : Oper
  S : SSt
  wanted : Bool
  d : Diff
def Tr.after (e : Tr) : SSt := e.S.apply e.o.dst e.d
def Tr.ent (draw : Bool) (ops : Array Oper) (e : Tr) : Ent :=
  if e.wanted then { i := e.i, rd := (miniOf draw ops e.o e.S).1, wr := e.d.sets.map (·.1), vr := e.d.nv != e.S.nv } else { i := e.i, rd := [], wr := [], vr := false }

def FactsOk (ρ : List D) (fs : List (X × Bool)) : Prop := ∀ x b, (x, b) ∈ fs → (x.den ρ).toBool = b

structure TrOk (C : Ctx) (W0 : World) (ops : Array Oper) (draw : Bool) (ρF : List D) (e : Tr) : Prop where
  facts : FactsOk ρF e.S.facts
  run : e.wanted = true → guardOf C ops e.o e.S = .run ∧ ∃ ds ρ0 j ρ1, StepOk C W0 (miniOf draw ops e.o e.S).2 e.S.heap.length e.o ds ρ0 j ρ1 ∧ ds[j]? = some e.d ∧ Agree ρ1.length ρ1 ρF ∧
    setsOk (miniOf draw ops e.o e.S).2.heap e.S.heap.length e.d.sets = true
  skip : e.wanted = false → guardOf C ops e.o e.S = .skip ∧ e.d = { val := .undef, nv := e.S.nv }

/-- A way through a region, in the order of the text. -/
def Path : List Oper → Nat → SSt → List Tr → SSt → Prop
  | [], _, S, [], S' => S' = S
  | o :: l, i, S, e :: es, S' => e.i = i ∧ e.o = o ∧ e.S.env = S.env ∧ e.S.heap = S.heap ∧ e.S.nv = S.nv ∧ Path l (i + 1) e.after es S'
  | _, _, _, _, _ => False

section
variable {C : Ctx} {W0 : World} {Φ : Nat → List D → Option (Nat × List D)} {ops : Array Oper} {draw : Bool}

theorem mini_heap_length (o : Oper) (S : SSt) : (miniOf draw ops o S).2.heap.length = S.heap.length ∧ (miniOf draw ops o S).2.nv = S.nv ∧ (miniOf draw ops o S).2.facts = S.facts := by
  unfold miniOf
  split
  · refine ⟨?_, rfl, rfl⟩
    have : ∀ (l : List Nat) (i : Nat) (H : List SObj), (keepObjs l i H).length = H.length := by
      intro l i H
      induction H generalizing i with
      | nil => rfl
      | cons a H ih => simp [keepObjs, ih]
    exact this _ _ _
  · exact ⟨rfl, rfl, rfl⟩

/-- asked, a guard is answered -/
theorem guardOf_ask {o : Oper} {S : SSt} {c : X} {want : Bool} (h : guardOf C ops o S = .ask c want) :
    guardOf C ops o { S with facts := (c, want) :: S.facts } = .run ∧ guardOf C ops o { S with facts := (c, !want) :: S.facts } = .skip := by
  unfold guardOf at h ⊢
  split at h
  · cases h
  · rename_i j w hg
    split at h
    · rename_i d hd
      dsimp only
      generalize hv : S.env.getD d .any = v at h ⊢
      cases v with
      | x a t =>
        have hkx : known C.P S.facts (.x a t) = .x a t ∨ ∃ b, known C.P S.facts (.x a t) = .x (.bool b) t := by
          unfold known
          dsimp only
          split
          · split
            · exact .inr ⟨_, rfl⟩
            · exact .inl rfl
          · exact .inl rfl
        rcases hkx with hk | ⟨b, hk⟩
        · rw [hk] at h
          dsimp only at h
          split at h
          · rename_i hb
            split at h
            · rename_i b' ha
              split at h <;> cases h
            · rename_i c' hne
              cases h
              have hk1 : ∀ x, known C.P ((c, x) :: S.facts) (.x c t) = .x (.bool x) t := fun x => by simp [known, hb]
              rw [hk1, hk1]
              dsimp only
              rw [if_pos hb, if_pos hb]
              simp
          · cases h
        · rw [hk] at h
          dsimp only at h
          split at h
          · split at h <;> cases h
          · cases h
      | _ => simp [known] at h
    · cases h

theorem symOps_path (hC : Kept C W0 Φ) : ∀ (l : List Oper) (i : Nat) (S : SSt) (tr : List Ent) {t : T} {ls : List (SSt × List Ent)}, symOps C ops draw l i S tr = some (t, ls) →
    t.ok false = true ∧ ∀ {ρ0 ρ' : List D} {j : Nat}, ρ0.length = S.nv → t.den Φ 0 ρ0 = some (j, ρ') →
      ∃ S' es more, ls[j]? = some (S', (es.map (Tr.ent draw ops)).reverse ++ tr) ∧ Path l i S es S' ∧ ρ' = ρ0 ++ more ∧ ρ'.length = S'.nv ∧
        ∀ ρF, Agree ρ'.length ρ' ρF → FactsOk ρF S.facts → (∀ e ∈ es, TrOk C W0 ops draw ρF e) ∧ FactsOk ρF S'.facts
  | [], i, S, tr, t, ls, h => by
    simp only [symOps, Option.some.injEq, Prod.mk.injEq] at h
    obtain ⟨rfl, rfl⟩ := h
    refine ⟨rfl, fun {ρ0 ρ' j} hlen hd => ?_⟩
    simp only [T.den, Option.some.injEq, Prod.mk.injEq] at hd
    obtain ⟨rfl, rfl⟩ := hd
    exact ⟨S, [], [], rfl, rfl, by simp, hlen, fun ρF _ hF => ⟨by simp, hF⟩⟩
  | o :: r, i, S, tr, t, ls, h => by
    -- the two ways
    let run (S : SSt) : Option (T × List (SSt × List Ent)) :=
      let m := miniOf draw ops o S
      match symStep C m.2 S.heap.length o with
      | some (t, ds) => if !t.closed S.nv || !ds.all (fun d => setsOk m.2.heap S.heap.length d.sets) then none else
        onLeaves t ds fun d => symOps C ops draw r (i + 1) (S.apply o.dst d) ({ i := i, rd := m.1, wr := d.sets.map (·.1), vr := d.nv != S.nv } :: tr)
      | none => none
    let pass (S : SSt) := symOps C ops draw r (i + 1) (S.apply o.dst { val := .undef, nv := S.nv }) ({ i := i, rd := [], wr := [], vr := false } :: tr)
    have Hrun : ∀ (S1 : SSt), S1.env = S.env → S1.heap = S.heap → S1.nv = S.nv → guardOf C ops o S1 = .run → ∀ {t : T} {ls : List (SSt × List Ent)}, run S1 = some (t, ls) →
        t.ok false = true ∧ ∀ {ρ0 ρ' : List D} {j : Nat}, ρ0.length = S.nv → t.den Φ 0 ρ0 = some (j, ρ') →
          ∃ S' es more, ls[j]? = some (S', (es.map (Tr.ent draw ops)).reverse ++ tr) ∧ Path (o :: r) i S es S' ∧ ρ' = ρ0 ++ more ∧ ρ'.length = S'.nv ∧
            ∀ ρF, Agree ρ'.length ρ' ρF → FactsOk ρF S1.facts → (∀ e ∈ es, TrOk C W0 ops draw ρF e) ∧ FactsOk ρF S'.facts := by
      intro S1 e1 e2 e3 hg t ls h
      dsimp only [run] at h
      split at h
      · rename_i t0 ds hst
        split at h
        · cases h
        · rename_i hchk
          simp only [Bool.or_eq_true, Bool.not_eq_true', not_or, Bool.not_eq_false, List.all_eq_true] at hchk
          have hlenm := mini_heap_length (draw := draw) (ops := ops) o S1
          have hst' : symStep C (miniOf draw ops o S1).2 S1.heap.length o = some (t0, ds) := hst
          obtain ⟨hok, hden⟩ := onLeaves_den (Φ := Φ) h (symStep_tok hst') (fun d _ x hx => (symOps_path hC r (i + 1) _ _ hx).1)
          refine ⟨hok, fun {ρ0 ρ' j} hlen hd => ?_⟩
          obtain ⟨j0, ρ1, g1, g2⟩ := hden hd
          have hstep := symStep_ok hC hst' hlenm.1 (by rw [hlenm.2.1]; exact hchk.1) (by rw [hlenm.2.1, e3]; exact hlen) g1
          obtain ⟨d, more1, f1, f2, f3, f4⟩ := hstep
          obtain ⟨t1, l1, j1, k1, k2, k3⟩ := g2 d f1
          obtain ⟨_, hrec⟩ := symOps_path hC r (i + 1) _ _ k1
          obtain ⟨S', es, more2, m1, m2, m3, m4, m5⟩ := hrec (by rw [f3]; rfl) k2
          let e : Tr := { i := i, o := o, S := S1, wanted := true, d := d }
          refine ⟨S', e :: es, more1 ++ more2, ?_, ⟨rfl, rfl, e1, e2, e3, m2⟩, by rw [m3, f2, List.append_assoc], m4, fun ρF ha hF => ?_⟩
          · have := k3 _ m1
            rw [this]
            simp only [List.map_cons, List.reverse_cons, List.append_assoc, List.singleton_append]
            rfl
          · have ha1 : Agree ρ1.length ρ1 ρF := by rw [m3] at ha; exact agree_app ha
            have hF1 : FactsOk ρF (S1.apply o.dst d).facts := hF
            obtain ⟨n1, n2⟩ := m5 ρF ha hF1
            refine ⟨fun q hq => ?_, n2⟩
            rcases List.mem_cons.1 hq with rfl | hq
            · exact ⟨hF, fun _ => ⟨hg, ds, ρ0, j0, ρ1, ⟨d, more1, f1, f2, f3, f4⟩, f1, ha1, hchk.2 d (List.mem_of_getElem? f1)⟩, fun hw => by cases hw⟩
            · exact n1 q hq
      · cases h
    have Hpass : ∀ (S1 : SSt), S1.env = S.env → S1.heap = S.heap → S1.nv = S.nv → guardOf C ops o S1 = .skip → ∀ {t : T} {ls : List (SSt × List Ent)}, pass S1 = some (t, ls) →
        t.ok false = true ∧ ∀ {ρ0 ρ' : List D} {j : Nat}, ρ0.length = S.nv → t.den Φ 0 ρ0 = some (j, ρ') →
          ∃ S' es more, ls[j]? = some (S', (es.map (Tr.ent draw ops)).reverse ++ tr) ∧ Path (o :: r) i S es S' ∧ ρ' = ρ0 ++ more ∧ ρ'.length = S'.nv ∧
            ∀ ρF, Agree ρ'.length ρ' ρF → FactsOk ρF S1.facts → (∀ e ∈ es, TrOk C W0 ops draw ρF e) ∧ FactsOk ρF S'.facts := by
      intro S1 e1 e2 e3 hg t ls h
      dsimp only [pass] at h
      obtain ⟨hok, hrec⟩ := symOps_path hC r (i + 1) _ _ h
      refine ⟨hok, fun {ρ0 ρ' j} hlen hd => ?_⟩
      obtain ⟨S', es, more2, m1, m2, m3, m4, m5⟩ := hrec (by rw [hlen]; exact e3.symm) hd
      let e : Tr := { i := i, o := o, S := S1, wanted := false, d := { val := .undef, nv := S1.nv } }
      refine ⟨S', e :: es, more2, ?_, ⟨rfl, rfl, e1, e2, e3, m2⟩, m3, m4, fun ρF ha hF => ?_⟩
      · rw [m1]
        simp only [List.map_cons, List.reverse_cons, List.append_assoc, List.singleton_append]
        rfl
      · obtain ⟨n1, n2⟩ := m5 ρF ha hF
        refine ⟨fun q hq => ?_, n2⟩
        rcases List.mem_cons.1 hq with rfl | hq
        · exact ⟨hF, fun hw => (by cases hw), fun _ => ⟨hg, rfl⟩⟩
        · exact n1 q hq
    unfold symOps at h
    dsimp only at h
    split at h
    · rename_i hg
      exact Hrun S rfl rfl rfl hg h
    · rename_i hg
      exact Hpass S rfl rfl rfl hg h
    · cases h
    · rename_i c want hg
      split at h
      · cases h
      · rename_i hcl
        simp only [Bool.not_eq_true', Bool.not_eq_false] at hcl
        obtain ⟨gr, gs⟩ := guardOf_ask hg
        split at h
        · rename_i a la b lb hra hpb
          obtain ⟨oka, Ha⟩ := Hrun { S with facts := (c, want) :: S.facts } rfl rfl rfl gr hra
          obtain ⟨okb, Hb⟩ := Hpass { S with facts := (c, !want) :: S.facts } rfl rfl rfl gs hpb
          have key : t = (if want then T.ite c a (b.shift la.length) else T.ite c (b.shift la.length) a) ∧ ls = la ++ lb := by
            cases want <;> simp at h ⊢ <;> exact ⟨h.1.symm, h.2.symm⟩
          obtain ⟨rfl, rfl⟩ := key
          refine ⟨by cases want <;> simp [T.ok, oka, shift_ok okb], fun {ρ0 ρ' j} hlen hd => ?_⟩
          have hd' : (if (c.den ρ0).toBool = want then a.den Φ 0 ρ0 else (b.shift la.length).den Φ 0 ρ0) = some (j, ρ') := by
            rw [← hd]
            cases want <;> cases hb : (c.den ρ0).toBool <;> simp [T.den, hb]
          have factsAt : ∀ {ρF : List D} {x : Bool}, Agree ρ0.length ρ0 ρF → (c.den ρ0).toBool = x → FactsOk ρF S.facts → FactsOk ρF ((c, x) :: S.facts) := by
            intro ρF x ha hx hF y b hy
            rcases List.mem_cons.1 hy with e | hy
            · cases e
              rw [X.closed_den (hlen ▸ ha) c hcl]; exact hx
            · exact hF y b hy
          by_cases hw : (c.den ρ0).toBool = want
          · rw [if_pos hw] at hd'
            obtain ⟨S', es, more, m1, m2, m3, m4, m5⟩ := Ha hlen hd'
            refine ⟨S', es, more, ?_, m2, m3, m4, fun ρF ha hF => m5 ρF ha (factsAt (by rw [m3] at ha; exact agree_app ha) hw hF)⟩
            rw [List.getElem?_append_left (List.getElem?_eq_some_iff.1 m1).1]; exact m1
          · rw [if_neg hw] at hd'
            rw [shift_den okb, Option.map_eq_some_iff] at hd'
            obtain ⟨⟨j1, ρ1⟩, k1, k2⟩ := hd'
            simp only [Prod.mk.injEq] at k2
            obtain ⟨rfl, rfl⟩ := k2
            obtain ⟨S', es, more, m1, m2, m3, m4, m5⟩ := Hb hlen k1
            refine ⟨S', es, more, ?_, m2, m3, m4, fun ρF ha hF => m5 ρF ha (factsAt (by rw [m3] at ha; exact agree_app ha) (by revert hw; cases (c.den ρ0).toBool <;> cases want <;> simp) hF)⟩
            rw [List.getElem?_append_right (by omega), Nat.add_sub_cancel]; exact m1
        · cases h
end
end Go.RX
namespace Go.RX

section
variable {C : Ctx} {W0 : World} {ops : Array Oper} {B : Base} {ρ : List D} {a : Act} {w : World} {m : Pl}

/-- How a guard stands is what the machine sees. -/
theorem guard_wanted {o : Oper} {S : SSt} {av : Av} (hf : FactsOk ρ S.facts) (hr : ∀ j want d, o.guard = some (j, want) → (ops[j]?).bind (·.dst) = some d → RepS C.P w av m ρ (S.env.getD d .any) (a.tmps.getD d Go.undef)) :
    (guardOf C ops o S = .run → Region.wanted o (yielded ops a.tmps) = true) ∧ (guardOf C ops o S = .skip → Region.wanted o (yielded ops a.tmps) = false) := by
  unfold guardOf Region.wanted
  cases hg : o.guard with
  | none => simp
  | some q =>
    obtain ⟨j, want⟩ := q
    dsimp only
    cases hd : (ops[j]?).bind (·.dst) with
    | none => simp
    | some d =>
      dsimp only
      have hv := known_rep (P := C.P) hf (hr j want d hg hd)
      have hy : ∀ b, a.tmps.getD d Go.undef = .bool b → yielded ops a.tmps j = some b := by
        intro b hb
        unfold yielded
        rw [hd]
        simp only [Option.bind_some]
        rw [Array.getD_eq_getD_getElem?] at hb
        cases ht : a.tmps[d]? with
        | none => rw [ht] at hb; simp [Go.undef] at hb
        | some v => rw [ht] at hb; simp at hb; subst hb; rfl
      have hn : a.tmps.getD d Go.undef = Go.undef → yielded ops a.tmps j = none := by
        intro hb
        unfold yielded
        rw [hd]
        simp only [Option.bind_some]
        rw [Array.getD_eq_getD_getElem?] at hb
        cases ht : a.tmps[d]? with
        | none => rfl
        | some v => rw [ht] at hb; simp at hb; subst hb; rfl
      generalize known C.P S.facts (S.env.getD d .any) = s at hv ⊢
      cases s with
      | x c t =>
        dsimp only
        split
        · rename_i hb
          simp only [RepS] at hv
          obtain ⟨e1, e2⟩ := hv.ofBool (isBool_eq.1 hb)
          rw [hy _ e1]
          split
          · rename_i b
            simp only [X.den, D.toBool]
            cases b <;> cases want <;> simp
          · simp
        · simp
      | undef =>
        simp only [RepS] at hv
        rw [hn hv]
        simp
      | _ => simp

/-- The frame and the world, but for the facts. -/
structure Ful (P : Program) (B : Base) (ρ : List D) (env : List SV) (H : List SObj) (a : Act) (w : World) (m : Pl) : Prop where
  sim : Sim P B ρ H m w
  slots : ∀ i, RepS P w (avOf P m ρ B.fr H) m ρ (env.getD i .any) (a.tmps.getD i Go.undef)
  len : env.length = a.tmps.size
  defers : a.defers = []
theorem Ful.mod {S : SSt} (h : Ful C.P B ρ S.env S.heap a w m) (hf : FactsOk ρ S.facts) : Mod C.P B ρ S a w m := ⟨h.sim, h.slots, h.len, h.defers, hf⟩
theorem Mod.ful {S : SSt} (h : Mod C.P B ρ S a w m) : Ful C.P B ρ S.env S.heap a w m := ⟨h.sim, h.env, h.len, h.defers⟩

theorem put_getD (a : Act) (dst : Option Nat) (v : Value) (i : Nat) : (a.put dst v).tmps.getD i Go.undef = if dst = some i ∧ i < a.tmps.size then v else a.tmps.getD i Go.undef := by
  cases dst with
  | none => simp [Act.put]
  | some d =>
    simp only [Act.put, Option.some.injEq]
    simp only [Array.getD_eq_getD_getElem?, Array.getElem?_setIfInBounds]
    by_cases e : d = i
    · subst e
      by_cases hl : d < a.tmps.size
      · simp [hl]
      · simp [hl]
    · simp [e]
theorem putEnv_getD (env : List SV) (dst : Option Nat) (v : SV) (i : Nat) : (putEnv env dst v).getD i .any = if dst = some i ∧ i < env.length then v else env.getD i .any := by
  cases dst with
  | none => simp [putEnv]
  | some d =>
    simp only [putEnv, Option.some.injEq]
    simp only [List.getD_eq_getElem?_getD, List.getElem?_set]
    by_cases e : d = i
    · subst e
      by_cases hl : d < env.length
      · simp [hl]
      · simp [hl]
    · simp [e]
theorem putEnv_length (env : List SV) (dst : Option Nat) (v : SV) : (putEnv env dst v).length = env.length := by cases dst <;> simp [putEnv]
theorem put_size (a : Act) (dst : Option Nat) (v : Value) : (a.put dst v).tmps.size = a.tmps.size := by cases dst <;> simp [Act.put]
theorem put_defers (a : Act) (dst : Option Nat) (v : Value) : (a.put dst v).defers = a.defers := by cases dst <;> rfl

theorem Ful.step {P : Program} {env : List SV} {H : List SObj} (h : Ful P B ρ env H a w m) {n : Nat} {sets : List (Nat × SObj)} {val : SV} {m' : Pl} {w' : World} {v : Value} (hg : Goes P B ρ H m w n sets val m' w' v) (dst : Option Nat) :
    Ful P B ρ (putEnv env dst val) (hsets H sets) (a.put dst v) w' m' := by
  refine ⟨hg.sim, fun i => ?_, by rw [putEnv_length, put_size, h.len], by rw [put_defers]; exact h.defers⟩
  rw [put_getD, putEnv_getD, h.len]
  split
  · exact hg.val
  · exact (h.slots i).keeps hg.keep hg.le _
theorem Ful.skip {P : Program} {env : List SV} {H : List SObj} (h : Ful P B ρ env H a w m) (dst : Option Nat) : Ful P B ρ (putEnv env dst .undef) H (a.put dst Go.undef) w m := by
  refine ⟨h.sim, fun i => ?_, by rw [putEnv_length, put_size, h.len], by rw [put_defers]; exact h.defers⟩
  rw [put_getD, putEnv_getD, h.len]
  split
  · simp only [RepS]
  · exact h.slots i

/-- what stays where it lies -/
def KeptAt (C : Ctx) (m0 m : Pl) (H : List SObj) : Prop := ∀ i ∈ C.kp, hget H i ≠ .dead → m i = m0 i
theorem KeptAt.step {m0 m' : Pl} {H : List SObj} {n : Nat} {sets : List (Nat × SObj)} (h : KeptAt C m0 m H) (hkp : ∀ i ∈ C.kp, i < n) (hm : ∀ o, o < n ∨ (hsets H sets).length ≤ o → m' o = m o)
    (hs : ∀ q ∈ sets, n ≤ q.1 ∨ hget H q.1 ≠ .dead) : KeptAt C m0 m' (hsets H sets) := by
  intro i hi hl
  rw [hm i (.inl (hkp i hi))]
  refine h i hi fun hd => ?_
  by_cases hx : ∃ q ∈ sets, q.1 = i
  · obtain ⟨q, hq, rfl⟩ := hx
    rcases hs q hq with h1 | h1
    · have := hkp _ hi; omega
    · exact h1 hd
  · rw [hget_hsets_out _ _ _ (fun q hq e => hx ⟨q, hq, e⟩)] at hl
    exact hl hd

/-- The operations in the order of the text. -/
theorem path_run (hB : Under W0 B) {ρF : List D} {m0 : Pl} {S' : SSt} {Q : Exit → Act → World → Prop} : ∀ {l : List Oper} {i : Nat} {S : SSt} {es : List Tr}, Path l i S es S' → (∀ e ∈ es, TrOk C W0 ops false ρF e) → (∀ j, l[j]? = ops[i + j]?) →
    ∀ {a : Act} {w : World} {m : Pl}, Ful C.P B ρF S.env S.heap a w m → (∀ o, S.heap.length ≤ o → m o = none) → KeptAt C m0 m S.heap → (∀ i ∈ C.kp, i < S.heap.length) → C.k ≤ S.heap.length →
      (∀ a' w' m', Ful C.P B ρF S'.env S'.heap a' w' m' → (∀ o, S'.heap.length ≤ o → m' o = none) → KeptAt C m0 m' S'.heap → C.k ≤ S'.heap.length → Q .normal a' w') → wpOps C.P ops Q (List.range' i l.length) a w
  | [], i, S, es, hp, _, _, a, w, m, hF, hfr, hkp, hk1, hk, hQ => by
    cases es with
    | nil => simp only [Path] at hp; subst hp; exact hQ a w m hF hfr hkp hk
    | cons e es => simp [Path] at hp
  | o :: l, i, S, es, hp, htr, hl, a, w, m, hF, hfr, hkp, hk1, hk, hQ => by
    cases es with
    | nil => simp [Path] at hp
    | cons e es =>
      obtain ⟨e1, e2, e3, e4, e5, hp⟩ := hp
      have hok := htr e (List.mem_cons_self ..)
      have h0 : ops[i]? = some o := by simpa using (hl 0).symm
      simp only [List.length_cons, List.range'_succ, wpOps, h0]
      have hM : Mod C.P B ρF e.S a w m := by
        have : Ful C.P B ρF e.S.env e.S.heap a w m := by rw [e3, e4]; exact hF
        exact this.mod hok.facts
      have hgd := guard_wanted (C := C) (ops := ops) (o := o) hok.facts (fun j want d _ _ => hM.env d)
      have hl' : ∀ j, l[j]? = ops[i + 1 + j]? := fun j => by have := hl (j + 1); simpa [Nat.add_assoc, Nat.add_comm 1 j] using this
      have htr' : ∀ e ∈ es, TrOk C W0 ops false ρF e := fun q hq => htr q (List.mem_cons_of_mem _ hq)
      cases hw : e.wanted with
      | true =>
        obtain ⟨g1, ds, ρ0, j, ρ1, g2, g3, g4, g5⟩ := hok.run hw
        rw [e2] at g1 g2 g5
        rw [if_pos (hgd.1 g1)]
        left
        obtain ⟨d, more, f1, f2, f3, f4⟩ := g2
        have hde : d = e.d := by rw [f1] at g3; cases g3; rfl
        subst hde
        refine f4 B ρF a w m hB g4 (by simpa [miniOf] using hM) (by simp [miniOf]) g5 (fun q h1 h2 => hfr q (by rw [← e4]; exact h1)) _ _ fun v m' w' hG => ?_
        have hG' : Goes C.P B ρF e.S.heap m w e.S.heap.length e.d.sets e.d.val m' w' v := hG
        have g5' : setsOk e.S.heap e.S.heap.length e.d.sets = true := g5
        simp only [setsOk, List.all_eq_true, Bool.and_eq_true, Bool.or_eq_true, decide_eq_true_eq] at g5'
        have hlen := (length_hsets e.d.sets e.S.heap).1
        have hFul : Ful C.P B ρF e.S.env e.S.heap a w m := hM.ful
        have key := hFul.step hG' e.o.dst
        rw [e2] at key
        refine path_run hB hp htr' hl' (S := e.after) (by unfold Tr.after SSt.apply; rw [e2]; exact key) (fun q hq => ?_) ?_ ?_ ?_ hQ
        · have hq' : (hsets e.S.heap e.d.sets).length ≤ q := hq
          rw [hG'.new q (.inr hq')]
          exact hfr q (by rw [← e4]; omega)
        · have hkp' : KeptAt C m0 m e.S.heap := by rw [e4]; exact hkp
          exact hkp'.step (by rw [e4]; exact hk1) hG'.new (fun q hq => (g5' q hq).1.imp id (fun h => writable_live (isWr_iff.1 h)))
        · intro q hq
          have := hk1 q hq
          rw [← e4] at this
          have h2 : (e.after).heap.length = (hsets e.S.heap e.d.sets).length := rfl
          omega
        · have h2 : (e.after).heap.length = (hsets e.S.heap e.d.sets).length := rfl
          rw [← e4] at hk
          omega
      | false =>
        obtain ⟨g1, g2⟩ := hok.skip hw
        rw [e2] at g1
        rw [if_neg (by rw [hgd.2 g1]; simp)]
        have hFul : Ful C.P B ρF e.S.env e.S.heap a w m := hM.ful
        have key := hFul.skip o.dst
        have ea : e.after = { env := putEnv e.S.env o.dst .undef, heap := e.S.heap, nv := e.S.nv, facts := e.S.facts } := by
          unfold Tr.after SSt.apply
          rw [e2, g2]; rfl
        have eh : e.after.heap = S.heap := by rw [ea]; exact e4
        refine path_run hB hp htr' hl' (S := e.after) (by rw [ea]; exact key) (by rw [eh]; exact hfr) (by rw [eh]; exact hkp) (by rw [eh]; exact hk1) (by rw [eh]; exact hk) hQ
end
end Go.RX
namespace Go.RX

/-! States behind some of the operations. -/
abbrev EH := List SV × List SObj
def app1 (p : EH) (e : Tr) : EH := (putEnv p.1 e.o.dst e.d.val, hsets p.2 e.d.sets)
def appL (L : Nat → Bool) : List Tr → EH → EH
  | [], p => p
  | e :: es, p => appL L es (if L e.i then app1 p e else p)

theorem appL_append (L : Nat → Bool) : ∀ (x y : List Tr) (p : EH), appL L (x ++ y) p = appL L y (appL L x p)
  | [], _, _ => rfl
  | e :: x, y, p => by simp only [List.cons_append, appL]; exact appL_append L x y _
theorem app1_len (p : EH) (e : Tr) : (app1 p e).1.length = p.1.length := putEnv_length _ _ _
theorem appL_len (L : Nat → Bool) : ∀ (es : List Tr) (p : EH), (appL L es p).1.length = p.1.length
  | [], _ => rfl
  | e :: es, p => by
    simp only [appL]
    rw [appL_len L es]
    split
    · exact app1_len p e
    · rfl
theorem hget_hsets_congr {o : Nat} : ∀ {l : List (Nat × SObj)} {H H' : List SObj}, hget H o = hget H' o ∨ (∃ q ∈ l, q.1 = o) → hget (hsets H l) o = hget (hsets H' l) o
  | [], H, H', h => by
    rcases h with h | ⟨q, hq, _⟩
    · exact h
    · simp at hq
  | (n, ob) :: l, H, H', h => by
    rw [hsets, hsets]
    refine hget_hsets_congr ?_
    rw [hget_hset, hget_hset]
    by_cases e : o = n
    · left; rw [if_pos e, if_pos e]
    · rw [if_neg e, if_neg e]
      rcases h with h | ⟨q, hq, hqo⟩
      · exact .inl h
      · rcases List.mem_cons.1 hq with e' | hq
        · subst e'; exact (e hqo.symm).elim
        · exact .inr ⟨q, hq, hqo⟩
theorem app1_slot {p p' : EH} {e : Tr} {d : Nat} (hl : p.1.length = p'.1.length) (h : p.1.getD d .any = p'.1.getD d .any) : (app1 p e).1.getD d .any = (app1 p' e).1.getD d .any := by
  simp only [app1]
  rw [putEnv_getD, putEnv_getD, hl, h]
theorem app1_slot_out {p : EH} {e : Tr} {d : Nat} (h : e.o.dst ≠ some d) : (app1 p e).1.getD d .any = p.1.getD d .any := by
  simp only [app1]
  rw [putEnv_getD, if_neg (fun hh => h hh.1)]
theorem app1_obj {p p' : EH} {e : Tr} {o : Nat} (h : hget p.2 o = hget p'.2 o) : hget (app1 p e).2 o = hget (app1 p' e).2 o := hget_hsets_congr (.inl h)
theorem app1_obj_out {p : EH} {e : Tr} {o : Nat} (h : ∀ q ∈ e.d.sets, q.1 ≠ o) : hget (app1 p e).2 o = hget p.2 o := hget_hsets_out _ _ _ h

theorem appL_slot {d : Nat} {L L' : Nat → Bool} : ∀ {es : List Tr} {p p' : EH}, p.1.length = p'.1.length → p.1.getD d .any = p'.1.getD d .any → (∀ e ∈ es, e.o.dst = some d → L e.i = L' e.i) →
    (appL L es p).1.getD d .any = (appL L' es p').1.getD d .any
  | [], _, _, _, h, _ => h
  | e :: es, p, p', hl, h, hL => by
    simp only [appL]
    refine appL_slot ?_ ?_ (fun e he => hL e (List.mem_cons_of_mem _ he))
    · split <;> split <;> simp [app1_len, hl]
    · by_cases hd : e.o.dst = some d
      · rw [hL e (List.mem_cons_self ..) hd]
        split
        · exact app1_slot hl h
        · exact h
      · have h1 : (if L e.i then app1 p e else p).1.getD d .any = p.1.getD d .any := by split; exact app1_slot_out hd; rfl
        have h2 : (if L' e.i then app1 p' e else p').1.getD d .any = p'.1.getD d .any := by split; exact app1_slot_out hd; rfl
        rw [h1, h2, h]
theorem appL_obj {o : Nat} {L L' : Nat → Bool} : ∀ {es : List Tr} {p p' : EH}, hget p.2 o = hget p'.2 o → (∀ e ∈ es, (∃ q ∈ e.d.sets, q.1 = o) → L e.i = L' e.i) →
    hget (appL L es p).2 o = hget (appL L' es p').2 o
  | [], _, _, h, _ => h
  | e :: es, p, p', h, hL => by
    simp only [appL]
    refine appL_obj ?_ (fun e he => hL e (List.mem_cons_of_mem _ he))
    by_cases hd : ∃ q ∈ e.d.sets, q.1 = o
    · rw [hL e (List.mem_cons_self ..) hd]
      split
      · exact app1_obj h
      · exact h
    · have hd' : ∀ q ∈ e.d.sets, q.1 ≠ o := fun q hq e => hd ⟨q, hq, e⟩
      have h1 : hget (if L e.i then app1 p e else p).2 o = hget p.2 o := by split; exact app1_obj_out hd'; rfl
      have h2 : hget (if L' e.i then app1 p' e else p').2 o = hget p'.2 o := by split; exact app1_obj_out hd'; rfl
      rw [h1, h2, h]
/-- none of it -/
theorem appL_none (es : List Tr) (p : EH) : appL (fun _ => false) es p = p := by
  induction es generalizing p with
  | nil => rfl
  | cons e es ih => simp only [appL, Bool.false_eq_true, if_false]; exact ih p
theorem appL_all {L : Nat → Bool} : ∀ {es : List Tr} {p : EH}, (∀ e ∈ es, L e.i = true) → appL L es p = appL (fun _ => true) es p
  | [], _, _ => rfl
  | e :: es, p, h => by
    simp only [appL, h e (List.mem_cons_self ..), if_true]
    exact appL_all fun e he => h e (List.mem_cons_of_mem _ he)
theorem appL_congr {L L' : Nat → Bool} : ∀ {es : List Tr} {p : EH}, (∀ e ∈ es, L e.i = L' e.i) → appL L es p = appL L' es p
  | [], _, _ => rfl
  | e :: es, p, h => by
    simp only [appL, h e (List.mem_cons_self ..)]
    exact appL_congr fun e he => h e (List.mem_cons_of_mem _ he)

theorem after_eh {e : Tr} {S : SSt} (h1 : e.S.env = S.env) (h2 : e.S.heap = S.heap) : (e.after.env, e.after.heap) = app1 (S.env, S.heap) e := by
  unfold Tr.after SSt.apply app1; rw [h1, h2]
theorem Path.end_eq : ∀ {l : List Oper} {i : Nat} {S S' : SSt} {es : List Tr}, Path l i S es S' → (S'.env, S'.heap) = appL (fun _ => true) es (S.env, S.heap)
  | [], i, S, S', [], h => by simp only [Path] at h; subst h; rfl
  | o :: l, i, S, S', e :: es, ⟨e1, e2, e3, e4, e5, h⟩ => by
    simp only [appL, if_true]
    rw [← after_eh e3 e4]
    exact h.end_eq
  | [], _, _, _, _ :: _, h => by simp [Path] at h
  | _ :: _, _, _, _, [], h => by simp [Path] at h
theorem Path.at_eq : ∀ {l : List Oper} {i : Nat} {S S' : SSt} {pre : List Tr} {e : Tr} {post : List Tr}, Path l i S (pre ++ e :: post) S' → (e.S.env, e.S.heap) = appL (fun _ => true) pre (S.env, S.heap)
  | o :: l, i, S, S', [], e, post, ⟨e1, e2, e3, e4, e5, h⟩ => by rw [e3, e4]; rfl
  | o :: l, i, S, S', x :: pre, e, post, ⟨e1, e2, e3, e4, e5, h⟩ => by
    simp only [appL, if_true]
    rw [← after_eh e3 e4]
    exact h.at_eq
  | [], _, _, _, [], _, _, h => by simp [Path] at h
  | [], _, _, _, _ :: _, _, _, h => by simp [Path] at h
theorem Path.index : ∀ {l : List Oper} {i : Nat} {S S' : SSt} {es : List Tr}, Path l i S es S' → es.length = l.length ∧ ∀ k e, es[k]? = some e → e.i = i + k ∧ l[k]? = some e.o
  | [], i, S, S', [], h => by simp
  | o :: l, i, S, S', e :: es, ⟨e1, e2, e3, e4, e5, h⟩ => by
    obtain ⟨h1, h2⟩ := h.index
    refine ⟨by simp [h1], fun k x hk => ?_⟩
    cases k with
    | zero => simp at hk; subst hk; exact ⟨by simpa using e1, by simp [e2]⟩
    | succ k =>
      obtain ⟨g1, g2⟩ := h2 k x (by simpa using hk)
      exact ⟨by rw [g1]; omega, by simpa using g2⟩
  | [], _, _, _, _ :: _, h => by simp [Path] at h
  | _ :: _, _, _, _, [], h => by simp [Path] at h
theorem Path.lens : ∀ {l : List Oper} {i : Nat} {S S' : SSt} {es : List Tr}, Path l i S es S' → (∀ e ∈ es, S.heap.length ≤ e.S.heap.length ∧ e.S.heap.length ≤ e.after.heap.length ∧ e.after.heap.length ≤ S'.heap.length) ∧ S.heap.length ≤ S'.heap.length
  | [], i, S, S', [], h => by simp only [Path] at h; subst h; simp
  | o :: l, i, S, S', e :: es, ⟨e1, e2, e3, e4, e5, h⟩ => by
    obtain ⟨h1, h2⟩ := h.lens
    have hl : e.S.heap.length ≤ e.after.heap.length := (length_hsets e.d.sets e.S.heap).1
    rw [e4] at hl
    refine ⟨fun x hx => ?_, by omega⟩
    rcases List.mem_cons.1 hx with rfl | hx
    · rw [e4]; exact ⟨Nat.le_refl _, hl, h2⟩
    · obtain ⟨g1, g2, g3⟩ := h1 x hx
      exact ⟨by omega, g2, g3⟩
  | [], _, _, _, _ :: _, h => by simp [Path] at h
  | _ :: _, _, _, _, [], h => by simp [Path] at h
theorem Path.order : ∀ {l : List Oper} {i : Nat} {S S' : SSt} {pre : List Tr} {e : Tr} {post : List Tr}, Path l i S (pre ++ e :: post) S' → (∀ x ∈ pre, x.after.heap.length ≤ e.S.heap.length) ∧ ∀ x ∈ post, e.after.heap.length ≤ x.S.heap.length
  | o :: l, i, S, S', [], e, post, ⟨e1, e2, e3, e4, e5, h⟩ => ⟨by simp, fun x hx => (h.lens.1 x hx).1⟩
  | o :: l, i, S, S', x :: pre, e, post, ⟨e1, e2, e3, e4, e5, h⟩ => by
    obtain ⟨h1, h2⟩ := h.order
    refine ⟨fun y hy => ?_, h2⟩
    rcases List.mem_cons.1 hy with rfl | hy
    · exact (h.lens.1 e (by simp)).1
    · exact h1 y hy
  | [], _, _, _, [], _, _, h => by simp [Path] at h
  | [], _, _, _, _ :: _, _, _, h => by simp [Path] at h

/-! What stands ahead. -/
theorem testBit_fold {acc : Array Nat} {p : Nat} : ∀ {es : List Edge} {s : Nat}, (es.foldl (fun s e => if alwaysBinds e then s ||| 2 ^ e.on ||| acc.getD e.on 0 else s) s).testBit p = true →
    s.testBit p = true ∨ ∃ e ∈ es, alwaysBinds e = true ∧ (p = e.on ∨ (acc.getD e.on 0).testBit p = true)
  | [], s, h => .inl h
  | e :: es, s, h => by
    rw [List.foldl_cons] at h
    rcases testBit_fold h with h | ⟨e', h1, h2⟩
    · split at h
      · rename_i hb
        simp only [Nat.testBit_or, Bool.or_eq_true] at h
        rcases h with (h | h) | h
        · exact .inl h
        · refine .inr ⟨e, List.mem_cons_self .., hb, .inl ?_⟩
          rw [Nat.testBit_two_pow] at h
          exact (of_decide_eq_true h).symm
        · exact .inr ⟨e, List.mem_cons_self .., hb, .inr h⟩
      · exact .inl h
    · exact .inr ⟨e', List.mem_cons_of_mem _ h1, h2⟩
theorem predTable_spec : ∀ (l : List Oper) (acc : Array Nat), (∀ k, k < acc.size → (predTable l acc).getD k 0 = acc.getD k 0) ∧
    ∀ k o, l[k]? = some o → ∀ p, ((predTable l acc).getD (acc.size + k) 0).testBit p = true → ∃ e ∈ o.after, alwaysBinds e = true ∧ (p = e.on ∨ ((predTable l acc).getD e.on 0).testBit p = true)
  | [], acc => ⟨fun _ _ => rfl, by simp⟩
  | o :: l, acc => by
    obtain ⟨h1, h2⟩ := predTable_spec l (acc.push (o.after.foldl (fun s e => if alwaysBinds e then s ||| 2 ^ e.on ||| acc.getD e.on 0 else s) 0))
    simp only [predTable]
    have hold : ∀ k, k < acc.size → (predTable l (acc.push (o.after.foldl (fun s e => if alwaysBinds e then s ||| 2 ^ e.on ||| acc.getD e.on 0 else s) 0))).getD k 0 = acc.getD k 0 := by
      intro k hk
      rw [h1 k (by simp; omega)]
      simp [Array.getD_eq_getD_getElem?, Array.getElem?_push, Nat.ne_of_lt hk]
    refine ⟨hold, fun k x hk p hp => ?_⟩
    cases k with
    | zero =>
      simp only [List.getElem?_cons_zero, Option.some.injEq] at hk
      subst hk
      rw [Nat.add_zero, h1 acc.size (by simp)] at hp
      have e0 : (acc.push (o.after.foldl (fun s e => if alwaysBinds e then s ||| 2 ^ e.on ||| acc.getD e.on 0 else s) 0)).getD acc.size 0 = o.after.foldl (fun s e => if alwaysBinds e then s ||| 2 ^ e.on ||| acc.getD e.on 0 else s) 0 := by
        simp [Array.getD_eq_getD_getElem?]
      rw [e0, ← Array.foldl_toList] at hp
      rcases testBit_fold hp with h | ⟨e, g1, g2, g3⟩
      · simp at h
      · refine ⟨e, by simpa using g1, g2, g3.imp id fun h => ?_⟩
        by_cases hlt : e.on < acc.size
        · rw [hold _ hlt]; exact h
        · have : acc.getD e.on 0 = 0 := by simp [Array.getD_eq_getD_getElem?, Array.getElem?_eq_none (Nat.le_of_not_lt hlt)]
          rw [this] at h; simp at h
    | succ k =>
      refine h2 k x (by simpa using hk) p ?_
      simp only [Array.size_push]
      rwa [show acc.size + 1 + k = acc.size + (k + 1) by omega]
theorem traceOk_pairs {ops : Array Oper} {tb : Array Nat} : ∀ {x y : List Ent} {b : Ent}, traceOk ops tb (x ++ b :: y) = true → ∀ a ∈ y, pairOk ops tb a b = true
  | [], y, b, h, a, ha => by
    simp only [List.nil_append, traceOk, Bool.and_eq_true, List.all_eq_true] at h
    exact h.1 a ha
  | c :: x, y, b, h, a, ha => by
    simp only [List.cons_append, traceOk, Bool.and_eq_true] at h
    exact traceOk_pairs h.2 a ha
end Go.RX
namespace Go.RX

theorem disj_spec {a b : List Nat} (h : disj a b = true) : ∀ x ∈ a, x ∉ b := by
  intro x hx hb
  simp only [disj, List.all_eq_true, Bool.not_eq_true', ] at h
  have := h x hx
  rw [List.contains_iff_mem.2 hb] at this
  cases this
theorem keepSlots_getD (l : List Nat) : ∀ (i : Nat) (vs : List SV) (d : Nat), (keepSlots l i vs).getD d .any = if l.contains (i + d) then vs.getD d .any else .any
  | i, [], d => by simp [keepSlots]
  | i, v :: vs, 0 => by simp [keepSlots]
  | i, v :: vs, d + 1 => by
    have := keepSlots_getD l (i + 1) vs d
    simp only [keepSlots, List.getD_cons_succ, this]
    rw [show i + 1 + d = i + (d + 1) by omega]
theorem keepSlots_length (l : List Nat) : ∀ (i : Nat) (vs : List SV), (keepSlots l i vs).length = vs.length
  | _, [] => rfl
  | i, v :: vs => by simp [keepSlots, keepSlots_length l (i + 1) vs]
theorem keepObjs_hget (l : List Nat) : ∀ (i : Nat) (vs : List SObj) (d : Nat), hget (keepObjs l i vs) d = if l.contains (i + d) then hget vs d else .dead
  | i, [], d => by simp [keepObjs, hget_nil]
  | i, v :: vs, 0 => by simp [keepObjs, hget]
  | i, v :: vs, d + 1 => by
    have := keepObjs_hget l (i + 1) vs d
    simp only [keepObjs, hget_cons_succ, this]
    rw [show i + 1 + d = i + (d + 1) by omega]

section
variable {C : Ctx} {W0 : World} {ops : Array Oper} {B : Base} {ρF : List D}

def Tr.wr (e : Tr) : List Nat := e.d.sets.map (·.1)
/-- Two operations that have no order touch nothing in common. -/
structure Apart (ops : Array Oper) (x y : Tr) : Prop where
  dst : ∀ d, x.o.dst = some d → (looks ops y.o).contains d = false ∧ y.o.dst ≠ some d
  dst' : ∀ d, y.o.dst = some d → (looks ops x.o).contains d = false
  wr : ∀ o ∈ x.wr, o ∉ (y.ent true ops).rd
  ww : ∀ o ∈ x.wr, o ∉ y.wr
  rw' : ∀ o ∈ y.wr, o ∉ (x.ent true ops).rd

theorem Sim.congr {P : Program} {B : Base} {ρ : List D} {H H' : List SObj} {m : Pl} {w : World} (h : Sim P B ρ H m w) (e : ∀ o, hget H' o = hget H o) : Sim P B ρ H' m w ∧ avOf P m ρ B.fr H' = avOf P m ρ B.fr H := by
  have hav : avOf P m ρ B.fr H' = avOf P m ρ B.fr H := by unfold avOf; funext b off; simp only [e]
  refine ⟨⟨fun o => ?_, fun o o' p p' b hl hl' => ?_, fun o p b hw => ?_, h.ext, ?_, fun o p b off hw => ?_, h.old⟩, hav⟩
  · rw [hav, e]; exact h.ok o
  · rw [e] at hl hl'; exact h.inj o o' p p' b hl hl'
  · rw [e] at hw; exact h.base o p b hw
  · rw [hav]; exact h.keep
  · rw [e] at hw; exact h.apart o p b off hw
theorem Ful.congr {P : Program} {B : Base} {ρ : List D} {env env' : List SV} {H H' : List SObj} {a : Act} {w : World} {m : Pl} (h : Ful P B ρ env H a w m) (hl : env'.length = env.length) (he : ∀ i, env'.getD i .any = env.getD i .any) (e : ∀ o, hget H' o = hget H o) :
    Ful P B ρ env' H' a w m := by
  obtain ⟨h1, h2⟩ := h.sim.congr e
  exact ⟨h1, fun i => by rw [h2, he]; exact h.slots i, by rw [hl]; exact h.len, h.defers⟩

/-- One operation of a region, whatever has been done ahead of it. -/
theorem drawn_step (hB : Under W0 B) {pre post : List Tr} {e : Tr} {p0 : EH} {L : Nat → Bool} (hok : TrOk C W0 ops true ρF e) (hat : (e.S.env, e.S.heap) = appL (fun _ => true) pre p0)
    (hL : L e.i = false) (hpre : ∀ x ∈ pre, L x.i = true ∨ Apart ops x e) (hpost : ∀ x ∈ post, L x.i = false ∨ Apart ops e x)
    (hi1 : ∀ x ∈ pre, x.i ≠ e.i) (hi2 : ∀ x ∈ post, x.i ≠ e.i)
    {a : Act} {w : World} {m : Pl} (hF : Ful C.P B ρF (appL L (pre ++ e :: post) p0).1 (appL L (pre ++ e :: post) p0).2 a w m)
    (hfr : ∀ o, e.S.heap.length ≤ o → o < e.after.heap.length → m o = none) :
    Region.wanted e.o (yielded ops a.tmps) = e.wanted ∧
    (e.wanted = true → ∀ (K : Act → World → Prop) (Q : Exit → Act → World → Prop),
      (∀ v m' w', Ful C.P B ρF (appL (fun i => L i || i == e.i) (pre ++ e :: post) p0).1 (appL (fun i => L i || i == e.i) (pre ++ e :: post) p0).2 (a.put e.o.dst v) w' m' →
        (∀ o, o < e.S.heap.length ∨ e.after.heap.length ≤ o → m' o = m o) → K (a.put e.o.dst v) w') → e.o.wp C.P a w K Q) ∧
    (e.wanted = false → Ful C.P B ρF (appL (fun i => L i || i == e.i) (pre ++ e :: post) p0).1 (appL (fun i => L i || i == e.i) (pre ++ e :: post) p0).2 (a.put e.o.dst Go.undef) w m) := by
  let L' : Nat → Bool := fun i => L i || i == e.i
  let q := appL L pre p0
  have hst : appL L (pre ++ e :: post) p0 = appL L post q := by rw [appL_append]; simp only [appL, hL]; rfl
  have hst' : appL L' (pre ++ e :: post) p0 = appL L post (app1 q e) := by
    rw [appL_append]
    have h1 : appL L' pre p0 = q := appL_congr fun x hx => by show (L x.i || x.i == e.i) = _; rw [beq_eq_false_iff_ne.2 (hi1 x hx), Bool.or_false]
    rw [h1]
    have h2 : L' e.i = true := by show (L e.i || e.i == e.i) = true; simp
    simp only [appL, h2, if_true]
    exact appL_congr fun x hx => by show (L x.i || x.i == e.i) = _; rw [beq_eq_false_iff_ne.2 (hi2 x hx), Bool.or_false]
  rw [hst] at hF
  show _ ∧ (_ → ∀ K Q, (∀ v m' w', Ful C.P B ρF (appL L' (pre ++ e :: post) p0).1 (appL L' (pre ++ e :: post) p0).2 _ _ _ → _ → _) → _) ∧ (_ → Ful C.P B ρF (appL L' (pre ++ e :: post) p0).1 (appL L' (pre ++ e :: post) p0).2 _ _ _)
  rw [hst']
  have elen : e.S.env.length = p0.1.length := by
    have := congrArg (fun x : EH => x.1.length) hat
    simpa [appL_len] using this
  -- what is looked at is as in the order of the text
  have hslot : ∀ d, (looks ops e.o).contains d = true → (appL L post q).1.getD d .any = e.S.env.getD d .any := by
    intro d hd
    have h1 : (appL L post q).1.getD d .any = (appL (fun _ => false) post q).1.getD d .any := appL_slot rfl rfl fun x hx hxd => by
      rcases hpost x hx with h | h
      · exact h
      · have := h.dst' d hxd
        rw [hd] at this; cases this
    rw [h1, appL_none]
    have h2 : q.1.getD d .any = (appL (fun _ => true) pre p0).1.getD d .any := appL_slot rfl rfl fun x hx hxd => by
      rcases hpre x hx with h | h
      · exact h
      · have := (h.dst d hxd).1
        rw [hd] at this; cases this
    rw [h2, ← hat]
  have hguard := guard_wanted (C := C) (ops := ops) (o := e.o) (S := e.S) (av := avOf C.P m ρF B.fr (appL L post q).2) (a := a) (w := w) (m := m) hok.facts (fun j want d hg hd => by
    rw [← hslot d (by simp [looks, hg, hd])]; exact hF.slots d)
  -- the state behind it
  have hafter : ∀ {v : Value} {m' : Pl} {w' : World}, Ful C.P B ρF (putEnv (appL L post q).1 e.o.dst e.d.val) (hsets (appL L post q).2 e.d.sets) (a.put e.o.dst v) w' m' →
      Ful C.P B ρF (appL L post (app1 q e)).1 (appL L post (app1 q e)).2 (a.put e.o.dst v) w' m' := by
    intro v m' w' hh
    refine hh.congr (by simp [appL_len, app1_len, putEnv_length]) (fun d => ?_) (fun o => ?_)
    · by_cases hd : e.o.dst = some d
      · have h1 : (appL L post (app1 q e)).1.getD d .any = (appL (fun _ => false) post (app1 q e)).1.getD d .any := appL_slot rfl rfl fun x hx hxd => by
          rcases hpost x hx with h | h
          · exact h
          · exact ((h.dst d hd).2 hxd).elim
        rw [h1, appL_none]
        simp only [app1]
        have e1 : (appL L post q).1.length = q.1.length := appL_len L post q
        rw [putEnv_getD, putEnv_getD, e1]
        simp only [hd, true_and]
        split
        · rfl
        · rename_i hlt
          rw [List.getD_eq_getElem?_getD, List.getD_eq_getElem?_getD, List.getElem?_eq_none (by omega), List.getElem?_eq_none (by omega)]
      · have h1 : (appL L post (app1 q e)).1.getD d .any = (appL L post q).1.getD d .any := appL_slot (app1_len q e) (app1_slot_out hd) fun _ _ _ => rfl
        rw [h1, putEnv_getD, if_neg (fun hx => hd hx.1)]
    · by_cases ho : ∃ s ∈ e.d.sets, s.1 = o
      · have h1 : hget (appL L post (app1 q e)).2 o = hget (appL (fun _ => false) post (app1 q e)).2 o := appL_obj rfl fun x hx hxo => by
          rcases hpost x hx with h | h
          · exact h
          · obtain ⟨s, hs, hso⟩ := ho
            obtain ⟨s', hs', hso'⟩ := hxo
            exact (h.ww o (List.mem_map.2 ⟨s, hs, hso⟩) (List.mem_map.2 ⟨s', hs', hso'⟩)).elim
        rw [h1, appL_none]
        exact hget_hsets_congr (.inr ho)
      · have ho' : ∀ s ∈ e.d.sets, s.1 ≠ o := fun s hs hso => ho ⟨s, hs, hso⟩
        have h1 : hget (appL L post (app1 q e)).2 o = hget (appL L post q).2 o := appL_obj (app1_obj_out ho') fun _ _ _ => rfl
        rw [h1, hget_hsets_out _ _ _ ho']
  cases hw : e.wanted with
  | false =>
    obtain ⟨g1, g2⟩ := hok.skip hw
    refine ⟨hguard.2 g1, fun h => (by cases h), fun _ => hafter ?_⟩
    rw [g2]
    exact hF.skip e.o.dst
  | true =>
    obtain ⟨g1, ds, ρ0, j, ρ1, g2, g3, g4, g5⟩ := hok.run hw
    refine ⟨hguard.1 g1, fun _ K Q hK => ?_, fun h => (by cases h)⟩
    obtain ⟨d, more, f1, f2, f3, f4⟩ := g2
    have hde : d = e.d := by rw [f1] at g3; cases g3; rfl
    subst hde
    let H := (appL L post q).2
    let mini' := (miniOf true ops e.o e.S).2
    let H1 := mini'.heap
    have hrd : (e.ent true ops).rd = (miniOf true ops e.o e.S).1 := by unfold Tr.ent; rw [hw]; rfl
    have hH1 : ∀ o, hget H1 o = if (e.ent true ops).rd.contains o then hget e.S.heap o else .dead := by
      intro o
      rw [hrd]
      show hget (keepObjs _ 0 e.S.heap) o = _
      rw [keepObjs_hget, Nat.zero_add]
      rfl
    have hobj : ∀ o, (e.ent true ops).rd.contains o = true → hget H o = hget e.S.heap o := by
      intro o ho
      have hm := List.contains_iff_mem.1 ho
      have h1 : hget H o = hget (appL (fun _ => false) post q).2 o := appL_obj rfl fun x hx hxo => by
        rcases hpost x hx with h | h
        · exact h
        · obtain ⟨s, hs, hso⟩ := hxo
          exact (h.rw' o (List.mem_map.2 ⟨s, hs, hso⟩) hm).elim
      rw [h1, appL_none]
      have h2 : hget q.2 o = hget (appL (fun _ => true) pre p0).2 o := appL_obj rfl fun x hx hxo => by
        rcases hpre x hx with h | h
        · exact h
        · obtain ⟨s, hs, hso⟩ := hxo
          exact (h.wr o (List.mem_map.2 ⟨s, hs, hso⟩) hm).elim
      rw [h2, ← hat]
    have hsame : ∀ o, hget H1 o ≠ .dead → hget H1 o = hget H o := by
      intro o ho
      rw [hH1] at ho ⊢
      split at ho
      · rename_i h; rw [if_pos h, hobj o h]
      · exact (ho rfl).elim
    have hview : View C.P B ρF H m w H1 := by
      intro o
      by_cases ho : hget H1 o = .dead
      · exact .inl ho
      · right
        rw [hsame o ho]
        rw [hsame o ho] at ho
        exact ⟨ho, hF.sim.ok o, fun hwr => ⟨hwr, fun _ => Iff.rfl⟩⟩
    have hS1 := hF.sim.within hview
    have hav := av_within hview
    have hlen1 : H1.length = e.S.heap.length := (mini_heap_length (draw := true) (ops := ops) e.o e.S).1
    have hM1 : Mod C.P (B.within C.P ρF H m w H1) ρF mini' a w m := by
      refine ⟨hS1, fun i => ?_, ?_, hF.defers, hok.facts⟩
      · rw [hav]
        show RepS C.P w _ m ρF ((keepSlots (looks ops e.o) 0 e.S.env).getD i .any) _
        rw [keepSlots_getD, Nat.zero_add]
        split
        · rename_i h; rw [← hslot i h]; exact hF.slots i
        · simp [RepS]
      · show (keepSlots (looks ops e.o) 0 e.S.env).length = _
        rw [keepSlots_length, elen, ← hF.len, appL_len]
        exact (appL_len L pre p0).symm
    have hafl : e.after.heap.length = (hsets e.S.heap e.d.sets).length := rfl
    have hlen2 : (hsets H1 e.d.sets).length = e.after.heap.length := by
      have : ∀ (l : List (Nat × SObj)) (X Y : List SObj), X.length = Y.length → (hsets X l).length = (hsets Y l).length := by
        intro l
        induction l with
        | nil => intro X Y h; exact h
        | cons x l ih => intro X Y h; obtain ⟨n, ob⟩ := x; rw [hsets, hsets]; exact ih _ _ (by rw [length_hset, length_hset, h])
      rw [this _ _ _ hlen1, hafl]
    have g5' := g5
    simp only [setsOk, List.all_eq_true, Bool.and_eq_true, Bool.or_eq_true, decide_eq_true_eq, Bool.not_eq_true'] at g5'
    refine f4 (B.within C.P ρF H m w H1) ρF a w m (hB.within hF.sim hview) g4 hM1 (by rw [hlen1]; exact Nat.le_refl _) g5 (fun x h1 h2 => hfr x h1 (by rw [← hlen2]; exact h2)) K Q fun v m' w' hG => ?_
    let T : Nat → Prop := fun o => writable (hget H1 o) ∨ ∃ s ∈ e.d.sets, s.1 = o
    have hval : ∀ o, (∃ s ∈ e.d.sets, s.1 = o) → hget (hsets H1 e.d.sets) o = .dead ∨ writable (hget (hsets H1 e.d.sets) o) := by
      have : ∀ (l : List (Nat × SObj)) (X : List SObj) (o : Nat), (∀ s ∈ l, isWr s.2 = true ∨ isLive s.2 = false) → (∃ s ∈ l, s.1 = o) → hget (hsets X l) o = .dead ∨ writable (hget (hsets X l) o) := by
        intro l
        induction l with
        | nil => rintro X o _ ⟨s, hs, _⟩; simp at hs
        | cons x l ih =>
          rintro X o hl ⟨s, hs, hso⟩
          obtain ⟨n, ob⟩ := x
          rw [hsets]
          by_cases hx : ∃ s ∈ l, s.1 = o
          · exact ih _ o (fun s hs => hl s (List.mem_cons_of_mem _ hs)) hx
          · rw [hget_hsets_out _ _ _ (fun s hs e => hx ⟨s, hs, e⟩)]
            rcases List.mem_cons.1 hs with e' | hs
            · subst e'
              simp only at hso
              subst hso
              rw [hget_hset, if_pos rfl]
              rcases hl (n, ob) (List.mem_cons_self ..) with h | h
              · exact .inr (isWr_iff.1 h)
              · left
                cases ob <;> simp [isLive] at h ⊢
            · exact (hx ⟨s, hs, hso⟩).elim
      exact fun o => this _ _ o fun s hs => (g5' s hs).2
    have hT : ∀ o, T o → hget (hsets H e.d.sets) o = hget (hsets H1 e.d.sets) o ∧ (hget H o ≠ .dead → writable (hget H1 o)) ∧ (hget (hsets H1 e.d.sets) o = .dead ∨ writable (hget (hsets H1 e.d.sets) o)) := by
      intro o ht
      refine ⟨?_, fun hl => ?_, ?_⟩
      · by_cases ho : ∃ s ∈ e.d.sets, s.1 = o
        · exact hget_hsets_congr (.inr ho)
        · have hwo := ht.resolve_right ho
          exact hget_hsets_congr (.inl (hsame o (writable_live hwo)).symm)
      · rcases ht with h | ⟨s, hs, hso⟩
        · exact h
        · rcases (g5' s hs).1 with h | h
          · exfalso
            have hlt : o < e.after.heap.length := by
              rw [hafl, ← hso]; exact (length_hsets e.d.sets e.S.heap).2 s hs
            obtain ⟨p, hp⟩ := ObjOk.some hl (hF.sim.ok o)
            rw [hfr o (by rw [← hso]; exact h) hlt] at hp
            cases hp
          · rw [← hso]; exact isWr_iff.1 h
      · by_cases ho : ∃ s ∈ e.d.sets, s.1 = o
        · exact hval o ho
        · rw [hget_hsets_out _ _ _ (fun s hs h => ho ⟨s, hs, h⟩)]
          exact .inr (ht.resolve_right ho)
    have hN : ∀ o, ¬ T o → hget (hsets H e.d.sets) o = hget H o ∧ ¬ writable (hget (hsets H1 e.d.sets) o) := by
      intro o ht
      have ho : ∀ s ∈ e.d.sets, s.1 ≠ o := fun s hs h => ht (.inr ⟨s, hs, h⟩)
      rw [hget_hsets_out _ _ _ ho, hget_hsets_out _ _ _ ho]
      exact ⟨rfl, fun hwo => ht (.inl hwo)⟩
    obtain ⟨k1, k2, k3⟩ := hF.sim.frame (H' := hsets H e.d.sets) hview hG.sim hG.le T (fun o h => .inl h) hT hN
    have hv := hG.val
    rw [k3] at hv
    exact hK v m' w' (hafter ⟨k1, fun i => by
      rw [put_getD, putEnv_getD, hF.len]
      split
      · exact hv
      · exact (hF.slots i).keeps k2 hG.le _, by rw [putEnv_length, put_size, hF.len], by rw [put_defers]; exact hF.defers⟩) (fun o ho => hG.new o (ho.imp id fun h => by rw [hlen2]; exact h))
end
end Go.RX
namespace Go.RX

theorem alwaysBinds_eq (e : Edge) : alwaysBinds e = Region.binds .any e := by
  unfold alwaysBinds Region.binds
  cases e.ground <;> rfl

section
variable {C : Ctx} {W0 : World} {ops : Array Oper} {B : Base} {ρF : List D}

theorem edgesOk_spec : ∀ {l : List Oper} {i : Nat}, edgesOk l i = true → ∀ k o, l[k]? = some o → ∀ e ∈ o.after, Region.binds .any e = true → e.on < i + k
  | [], _, _, k, o, h => by simp at h
  | x :: l, i, h, k, o, hk => by
    simp only [edgesOk, Bool.and_eq_true] at h
    cases k with
    | zero =>
      simp at hk; subst hk
      intro e he hb
      obtain ⟨h1, _⟩ := h
      have := h1
      rw [Array.all_eq_true] at this
      obtain ⟨j, hj, rfl⟩ := Array.mem_iff_getElem.1 he
      have := this j hj
      rw [alwaysBinds_eq, hb] at this
      simpa using this
    | succ k =>
      intro e he hb
      have := edgesOk_spec h.2 k o (by simpa using hk) e he hb
      omega

/-- how many are to come -/
def toCome (n : Nat) (listed : Array Bool) : Nat := (List.range n).countP fun i => !listed.getD i true
theorem countP_lt {α : Type} {p q : α → Bool} : ∀ {l : List α} {a : α}, (∀ x ∈ l, q x = true → p x = true) → a ∈ l → p a = true → q a = false → l.countP q < l.countP p
  | x :: l, a, h, ha, hp, hq => by
    have hle : l.countP q ≤ l.countP p := List.countP_mono_left fun y hy => h y (List.mem_cons_of_mem _ hy)
    simp only [List.countP_cons]
    rcases List.mem_cons.1 ha with rfl | ha
    · rw [hp, hq]; simp; omega
    · have := countP_lt (fun y hy => h y (List.mem_cons_of_mem _ hy)) ha hp hq
      have hx := h x (List.mem_cons_self ..)
      cases hqx : q x with
      | true => rw [hx hqx]; simp; omega
      | false => simp; omega

theorem apart_of {x y : Tr} {tb : Array Nat} (hx : ops.getD x.i default = x.o) (hy : ops.getD y.i default = y.o) (wx : (x.ent true ops).wr = x.wr) (wy : (y.ent true ops).wr = y.wr) (ix : (x.ent true ops).i = x.i) (iy : (y.ent true ops).i = y.i)
    (h : pairOk ops tb (x.ent true ops) (y.ent true ops) = true) : (tb.getD y.i 0).testBit x.i = true ∨ Apart ops x y := by
  unfold pairOk at h
  rw [ix, iy, hx, hy, wx, wy] at h
  simp only [Bool.or_eq_true, Bool.and_eq_true] at h
  rcases h with h | ⟨⟨⟨⟨h1, h2⟩, h3⟩, h4⟩, h5⟩
  · exact .inl h
  · right
    simp only [apartOps, Bool.and_eq_true] at h1
    refine ⟨fun d hd => ?_, fun d hd => ?_, fun o ho => disj_spec h3 o ho, fun o ho => disj_spec h4 o ho, fun o ho => disj_spec h5 o ho⟩
    · have := h1.1
      rw [hd] at this
      simp only [Bool.and_eq_true, Bool.not_eq_true', bne_iff_ne, ne_eq] at this
      exact this
    · have := h1.2
      rw [hd] at this
      simpa using this

theorem ent_wr {e : Tr} (h : TrOk C W0 ops true ρF e) : (e.ent true ops).wr = e.wr ∧ (e.ent true ops).i = e.i := by
  unfold Tr.ent Tr.wr
  cases hw : e.wanted with
  | true => exact ⟨rfl, rfl⟩
  | false => obtain ⟨_, e2⟩ := h.skip hw; rw [e2]; exact ⟨rfl, rfl⟩

/-- The operations in any order. -/
theorem drawn_run (hB : Under W0 B) {S S' : SSt} {es : List Tr} (hp : Path ops.toList 0 S es S') (htr : ∀ e ∈ es, TrOk C W0 ops true ρF e) (htrace : traceOk ops (predTable ops.toList #[]) (es.map (Tr.ent true ops)).reverse = true)
    (hedge : edgesOk ops.toList 0 = true) {m1 : Pl} {Q : Exit → Act → World → Prop}
    (hQ : ∀ a w m, Ful C.P B ρF S'.env S'.heap a w m → (∀ o, S'.heap.length ≤ o → m o = none) → (∀ o, o < S.heap.length → m o = m1 o) → Q .normal a w) :
    ∀ (fuel : Nat) (listed : Array Bool) (a : Act) (w : World) (m : Pl), listed.size = ops.size → toCome ops.size listed ≤ fuel →
      (∀ j, j < ops.size → listed.getD j true = true → ∀ p, ((predTable ops.toList #[]).getD j 0).testBit p = true → listed.getD p true = true) →
      Ful C.P B ρF (appL (fun i => listed.getD i true) es (S.env, S.heap)).1 (appL (fun i => listed.getD i true) es (S.env, S.heap)).2 a w m →
      (∀ o, S.heap.length ≤ o → m o ≠ none → ∃ e ∈ es, listed.getD e.i true = true ∧ e.S.heap.length ≤ o ∧ o < e.after.heap.length) →
      (∀ o, o < S.heap.length → m o = m1 o) → wpAny C.P .any ops Q fuel listed a w := by
  obtain ⟨hlen, hidx⟩ := hp.index
  have hlen' : es.length = ops.size := by simpa using hlen
  have hat : ∀ i, i < ops.size → ∃ e, es[i]? = some e ∧ e.i = i ∧ ops[i]? = some e.o := by
    intro i hi
    have h1 : i < es.length := by omega
    refine ⟨es[i], List.getElem?_eq_getElem h1, ?_⟩
    obtain ⟨g1, g2⟩ := hidx i _ (List.getElem?_eq_getElem h1)
    exact ⟨by simpa using g1, by simpa using g2⟩
  have hmem : ∀ e ∈ es, ∃ k, es[k]? = some e ∧ e.i = k ∧ ops[k]? = some e.o ∧ k < ops.size := by
    intro e he
    obtain ⟨k, hk⟩ := List.getElem?_of_mem he
    obtain ⟨g1, g2⟩ := hidx k e hk
    have hlt : k < es.length := (List.getElem?_eq_some_iff.1 hk).1
    exact ⟨k, hk, by simpa using g1, by simpa using g2, by omega⟩
  have hops : ∀ e ∈ es, ops.getD e.i default = e.o := by
    intro e he
    obtain ⟨k, _, h2, h3, _⟩ := hmem e he
    rw [h2, Array.getD_eq_getD_getElem?, h3]; rfl
  have hlens := hp.lens
  have hpred := (predTable_spec ops.toList #[]).2
  -- when nothing is ready, all is done
  have hdone : ∀ (listed : Array Bool), listed.size = ops.size → Region.ready .any ops listed = [] → ∀ i, i < ops.size → listed.getD i true = true := by
    intro listed hsz hr i
    induction i using Nat.strongRecOn with
    | _ i ih =>
      intro hi
      cases hl : listed.getD i true with
      | true => rfl
      | false =>
        exfalso
        obtain ⟨e, _, _, ho⟩ := hat i hi
        have : i ∈ Region.ready .any ops listed := mem_ready.2 ⟨hl, e.o, ho, fun x hx hb => by
          have hlt := edgesOk_spec hedge i e.o (by simpa using ho) x hx hb
          rw [Nat.zero_add] at hlt
          have h2 := ih x.on hlt (by omega)
          have hs : x.on < listed.size := by omega
          simp only [Array.getD_eq_getD_getElem?, Array.getElem?_eq_getElem hs, Option.getD_some] at h2 ⊢
          exact h2⟩
        rw [hr] at this
        cases this
  have hfin : ∀ (listed : Array Bool) (a : Act) (w : World) (m : Pl), listed.size = ops.size → Region.ready .any ops listed = [] →
      Ful C.P B ρF (appL (fun i => listed.getD i true) es (S.env, S.heap)).1 (appL (fun i => listed.getD i true) es (S.env, S.heap)).2 a w m →
      (∀ o, S.heap.length ≤ o → m o ≠ none → ∃ e ∈ es, listed.getD e.i true = true ∧ e.S.heap.length ≤ o ∧ o < e.after.heap.length) →
      (∀ o, o < S.heap.length → m o = m1 o) → Q .normal a w := by
    intro listed a w m hsz hr hF hW hm
    have hall : ∀ e ∈ es, listed.getD e.i true = true := fun e he => by
      obtain ⟨k, _, h2, _, h4⟩ := hmem e he
      rw [h2]; exact hdone listed hsz hr k h4
    rw [appL_all hall, ← hp.end_eq] at hF
    refine hQ a w m hF (fun o ho => ?_) hm
    cases hmo : m o with
    | none => rfl
    | some p =>
      obtain ⟨e, he, _, _, h3⟩ := hW o (by have := hlens.2; omega) (by rw [hmo]; simp)
      have := (hlens.1 e he).2.2
      omega
  intro fuel
  induction fuel with
  | zero =>
    intro listed a w m hsz hc hcl hF hW hm
    have hr : Region.ready .any ops listed = [] := by
      cases hr : Region.ready .any ops listed with
      | nil => rfl
      | cons i l =>
        exfalso
        have hi : i ∈ Region.ready .any ops listed := by rw [hr]; exact List.mem_cons_self ..
        obtain ⟨h1, o, h2, _⟩ := mem_ready.1 hi
        have hlt : i < ops.size := (Array.getElem?_eq_some_iff.1 h2).1
        have : 0 < toCome ops.size listed := by
          unfold toCome
          rw [List.countP_pos_iff]
          exact ⟨i, List.mem_range.2 hlt, by rw [h1]; rfl⟩
        omega
    exact ⟨hr, hfin listed a w m hsz hr hF hW hm⟩
  | succ fuel ih =>
    intro listed a w m hsz hc hcl hF hW hm
    refine ⟨fun hr => hfin listed a w m hsz hr hF hW hm, fun i hi => ?_⟩
    obtain ⟨hun, oi, hoi, hready⟩ := mem_ready.1 hi
    have hlt : i < ops.size := (Array.getElem?_eq_some_iff.1 hoi).1
    obtain ⟨e, hei, heI, heo⟩ := hat i hlt
    rw [heo] at hoi
    cases hoi
    have hmemE : e ∈ es := List.mem_of_getElem? hei
    have hok := htr e hmemE
    obtain ⟨pre, post, hsplit, hprelen⟩ : ∃ pre post, es = pre ++ e :: post ∧ pre.length = i := by
      have h1 : i < es.length := (List.getElem?_eq_some_iff.1 hei).1
      refine ⟨es.take i, es.drop (i + 1), ?_, by rw [List.length_take]; omega⟩
      have h2 : es[i] = e := (List.getElem?_eq_some_iff.1 hei).2
      rw [← h2]
      exact (List.take_append_drop i es).symm.trans (by rw [List.drop_eq_getElem_cons h1])
    have hpre_i : ∀ x ∈ pre, x.i < i := by
      intro x hx
      obtain ⟨k, hk⟩ := List.getElem?_of_mem hx
      have hkl : k < pre.length := (List.getElem?_eq_some_iff.1 hk).1
      have : es[k]? = some x := by rw [hsplit, List.getElem?_append_left hkl]; exact hk
      have := (hidx k x this).1
      omega
    have hpost_i : ∀ x ∈ post, i < x.i := by
      intro x hx
      obtain ⟨k, hk⟩ := List.getElem?_of_mem hx
      have : es[i + 1 + k]? = some x := by
        rw [hsplit, List.getElem?_append_right (by omega), show i + 1 + k - pre.length = k + 1 by omega]
        simpa using hk
      have := (hidx _ x this).1
      omega
    -- what is ahead of it has been done
    have hbits : ∀ p, ((predTable ops.toList #[]).getD i 0).testBit p = true → listed.getD p true = true := by
      intro p hpb
      obtain ⟨x, hx, hb, hxp⟩ := hpred i e.o (by simpa using heo) p (by simpa using hpb)
      rw [alwaysBinds_eq] at hb
      have h1 := hready x hx hb
      have h2 : listed.getD x.on true = true := by
        rcases Nat.lt_or_ge x.on listed.size with hs | hs
        · simp only [Array.getD_eq_getD_getElem?, Array.getElem?_eq_getElem hs, Option.getD_some] at h1 ⊢; exact h1
        · simp [Array.getD_eq_getD_getElem?, Array.getElem?_eq_none hs] at h1
      rcases hxp with rfl | hxp
      · exact h2
      · have hlt' := edgesOk_spec hedge i e.o (by simpa using heo) x hx hb
        exact hcl x.on (by omega) h2 p hxp
    have hpairs : (∀ x ∈ pre, pairOk ops (predTable ops.toList #[]) (x.ent true ops) (e.ent true ops) = true) ∧ ∀ x ∈ post, pairOk ops (predTable ops.toList #[]) (e.ent true ops) (x.ent true ops) = true := by
      rw [hsplit] at htrace
      simp only [List.map_append, List.map_cons, List.reverse_append, List.reverse_cons, List.append_assoc, List.singleton_append] at htrace
      refine ⟨fun x hx => traceOk_pairs htrace _ (by simpa using ⟨x, hx, rfl⟩), fun x hx => ?_⟩
      obtain ⟨s, t, hst⟩ := List.append_of_mem hx
      rw [hst] at htrace
      simp only [List.map_append, List.map_cons, List.reverse_append, List.reverse_cons, List.append_assoc, List.singleton_append] at htrace
      refine traceOk_pairs htrace _ ?_
      simp
    have hE := ent_wr hok
    have hpreA : ∀ x ∈ pre, listed.getD x.i true = true ∨ Apart ops x e := by
      intro x hx
      have hxm : x ∈ es := by rw [hsplit]; exact List.mem_append_left _ hx
      have hX := ent_wr (htr x hxm)
      rcases apart_of (hops x hxm) (hops e hmemE) hX.1 hE.1 hX.2 hE.2 (hpairs.1 x hx) with h | h
      · rw [heI] at h; exact .inl (hbits _ h)
      · exact .inr h
    have hpostA : ∀ x ∈ post, listed.getD x.i true = false ∨ Apart ops e x := by
      intro x hx
      have hxm : x ∈ es := by rw [hsplit]; exact List.mem_append_right _ (List.mem_cons_of_mem _ hx)
      have hX := ent_wr (htr x hxm)
      rcases apart_of (hops e hmemE) (hops x hxm) hE.1 hX.1 hE.2 hX.2 (hpairs.2 x hx) with h | h
      · left
        cases hl : listed.getD x.i true with
        | false => rfl
        | true =>
          obtain ⟨k, _, h2, _, h4⟩ := hmem x hxm
          have := hcl x.i (by omega) hl e.i h
          rw [heI, hun] at this; cases this
      · exact .inr h
    have horder := (hsplit ▸ hp : Path ops.toList 0 S (pre ++ e :: post) S').order
    have hatE := (hsplit ▸ hp : Path ops.toList 0 S (pre ++ e :: post) S').at_eq
    have hwin : ∀ o, e.S.heap.length ≤ o → o < e.after.heap.length → m o = none := by
      intro o h1 h2
      cases hmo : m o with
      | none => rfl
      | some p =>
        exfalso
        obtain ⟨x, hx, hxl, g1, g2⟩ := hW o (by have := (hlens.1 e hmemE).1; omega) (by rw [hmo]; simp)
        rw [hsplit] at hx
        rcases List.mem_append.1 hx with hx | hx
        · have := horder.1 x hx; omega
        · rcases List.mem_cons.1 hx with rfl | hx
          · rw [heI, hun] at hxl; cases hxl
          · have := horder.2 x hx; omega
    rw [hsplit] at hF
    obtain ⟨d1, d2, d3⟩ := drawn_step hB hok hatE (L := fun i => listed.getD i true) (by rw [heI]; exact hun) hpreA hpostA (fun x hx => by have := hpre_i x hx; omega) (fun x hx => by have := hpost_i x hx; omega) hF hwin
    -- what comes behind it
    have hsz' : (listed.setIfInBounds i true).size = ops.size := by simp [hsz]
    have hL' : ∀ j, (listed.setIfInBounds i true).getD j true = (listed.getD j true || j == e.i) := by
      intro j
      by_cases hij : i = j
      · subst hij
        have hs : i < listed.size := by omega
        simp [Array.getD_eq_getD_getElem?, hs, heI]
      · rw [getD_set_ne true hij, heI]
        have : (j == i) = false := by simpa using Ne.symm hij
        rw [this, Bool.or_false]
    have hc' : toCome ops.size (listed.setIfInBounds i true) ≤ fuel := by
      have : toCome ops.size (listed.setIfInBounds i true) < toCome ops.size listed := by
        refine countP_lt (fun x _ hx => ?_) (List.mem_range.2 hlt) (by rw [hun]; rfl) (by rw [hL', heI]; simp)
        rw [hL'] at hx
        revert hx
        cases listed.getD x true <;> simp
      omega
    have hcl' : ∀ j, j < ops.size → (listed.setIfInBounds i true).getD j true = true → ∀ p, ((predTable ops.toList #[]).getD j 0).testBit p = true → (listed.setIfInBounds i true).getD p true = true := by
      intro j hj hlj p hpb
      rw [hL']
      rw [hL', Bool.or_eq_true] at hlj
      rcases hlj with h | h
      · rw [hcl j hj h p hpb]; rfl
      · rw [heI, beq_iff_eq] at h
        subst h
        rw [hbits p hpb]; rfl
    have hgo : ∀ {v : Value} {m' : Pl} {w' : World}, Ful C.P B ρF (appL (fun j => listed.getD j true || j == e.i) (pre ++ e :: post) (S.env, S.heap)).1 (appL (fun j => listed.getD j true || j == e.i) (pre ++ e :: post) (S.env, S.heap)).2 (a.put e.o.dst v) w' m' →
        (∀ o, o < e.S.heap.length ∨ e.after.heap.length ≤ o → m' o = m o) → wpAny C.P .any ops Q fuel (listed.setIfInBounds i true) (a.put e.o.dst v) w' := by
      intro v m' w' hF' hm'
      refine ih _ _ w' m' hsz' hc' hcl' ?_ ?_ ?_
      · have : (fun j => (listed.setIfInBounds i true).getD j true) = fun j => listed.getD j true || j == e.i := funext hL'
        rw [this, hsplit]; exact hF'
      · intro o ho hmo
        by_cases hin : e.S.heap.length ≤ o ∧ o < e.after.heap.length
        · exact ⟨e, hmemE, by rw [hL']; simp, hin.1, hin.2⟩
        · rw [hm' o (by omega)] at hmo
          obtain ⟨x, hx, h1, h2⟩ := hW o ho hmo
          exact ⟨x, hx, by rw [hL', h1]; rfl, h2⟩
      · intro o ho
        rw [hm' o (.inl (by have := (hlens.1 e hmemE).1; omega))]
        exact hm o ho
    unfold wpOp
    rw [heo]
    dsimp only
    rw [d1]
    cases hw : e.wanted with
    | true =>
      rw [if_pos rfl]
      exact .inl (d2 hw _ _ fun v m' w' hF' hm' => hgo hF' hm')
    | false =>
      rw [if_neg (by simp)]
      exact hgo (d3 hw) (fun _ _ => rfl)
end
end Go.RX
namespace Go.RX

/-! What is closed says the same before longer lists. -/
theorem X.map_closed {f : Nat → X} {n : Nat} (hf : ∀ i, i < n → f i = .var i) : ∀ a : X, a.closed n = true → a.map f = a
  | .var i, h => by simp only [X.closed, decide_eq_true_eq] at h; simp only [X.map]; exact hf i h
  | .hole, h => rfl
  | .bool _, _ | .int _, _ | .str _, _ | .nil, _ => rfl
  | .cons a b, h | .bin _ _ a b, h | .cmp _ a b, h | .beq a b, h | .and a b, h | .or a b, h | .scmp _ a b, h | .scat a b, h | .sidx a b, h | .idx a b, h | .app a b, h | .rep a b, h | .fits a b _, h | .sfits a b, h | .ruc a b, h | .ruw a b, h => by
    simp only [X.closed, Bool.and_eq_true] at h
    simp only [X.map, X.map_closed hf a h.1, X.map_closed hf b h.2]
  | .fld a _, h | .sub a _ _, h | .wrap _ a, h | .not a, h | .slen a, h | .len a, h | .lit a, h | .s2b a, h | .b2s a, h => by
    simp only [X.closed] at h
    simp only [X.map, X.map_closed hf a h]
  | .ite a b c, h | .ssub a b c, h | .tk a b c, h | .mget a b c, h | .mput a b c, h | .upd a b _ c, h => by
    simp only [X.closed, Bool.and_eq_true] at h
    simp only [X.map, X.map_closed hf a h.1.1, X.map_closed hf b h.1.2, X.map_closed hf c h.2]
theorem SV.map_closed {f : Nat → X} {n : Nat} (hf : ∀ i, i < n → f i = .var i) : ∀ s : SV, s.closed n = true → s.map f id = s
  | .any, _ | .undef, _ | .nil, _ | .nilp, _ | .nils, _ | .nilf, _ | .nili, _ | .ifv, _ | .own _, _ | .ptr _ _, _ | .mp _, _ => rfl
  | .x a t, h | .full a t, h => by simp only [SV.closed] at h; simp only [SV.map, X.map_closed hf a h]
  | .iptr e a o, h => by simp only [SV.closed] at h; simp only [SV.map, X.map_closed hf a h]
  | .rptr e r i o, h => by simp only [SV.closed] at h; simp only [SV.map, X.map_closed hf i h]; rfl
  | .cons a b, h => by simp only [SV.closed, Bool.and_eq_true] at h; simp only [SV.map, SV.map_closed hf a h.1, SV.map_closed hf b h.2]
  | .agg a, h | .tup a, h | .lits a, h | .lptr a, h => by simp only [SV.closed] at h; simp only [SV.map, SV.map_closed hf a h]
  | .clo g a b, h => by simp only [SV.closed, Bool.and_eq_true] at h; simp only [SV.map, SV.map_closed hf a h.1, SV.map_closed hf b h.2]
theorem SObj.map_closed {f : Nat → X} {n : Nat} (hf : ∀ i, i < n → f i = .var i) (ob : SObj) (h : ob.closed n = true) : ob.mapv f id = ob := by
  cases ob with
  | dead => rfl
  | box c => simp only [SObj.closed] at h; simp only [SObj.mapv, SV.map_closed hf c h]
  | rbox c => simp only [SObj.closed] at h; simp only [SObj.mapv, SV.map_closed hf c h]
  | row e c w => simp only [SObj.closed] at h; simp only [SObj.mapv, X.map_closed hf c h]
  | map k v c => simp only [SObj.closed] at h; simp only [SObj.mapv, X.map_closed hf c h]
  | siter a b => simp only [SObj.closed, Bool.and_eq_true] at h; simp only [SObj.mapv, X.map_closed hf a h.1, X.map_closed hf b h.2]

section
variable {P : Program} {B : Base} {ρ ρ' : List D} {w : World} {m : Pl} {H : List SObj} {n : Nat}
theorem longer_den (hl : ρ.length = n) (ha : Agree n ρ ρ') (i : Nat) : (outVar 0 n i).den ρ' = ρ.getD i default := outVar_den hl (fun i hi => by rw [Nat.zero_add]; exact ha i hi) i
theorem longer_var {i : Nat} (hi : i < n) : outVar 0 n i = .var i := by unfold outVar; rw [if_pos hi, Nat.zero_add]
theorem RepS.longer (hl : ρ.length = n) (ha : Agree n ρ ρ') {av : Av} {s : SV} (hc : s.closed n = true) {v : Value} : RepS P w av m ρ' s v ↔ RepS P w av m ρ s v := by
  have := RepS.map (P := P) (w := w) (m := m) (av := av) (f := outVar 0 n) (g := id) (longer_den hl ha) s (v := v)
  rw [SV.map_closed (fun i hi => longer_var hi) s hc] at this
  exact this
theorem Sim.longer (h : Sim P B ρ H m w) (hl : ρ.length = n) (ha : Agree n ρ ρ') (hc : ∀ o, (hget H o).closed n = true) : Sim P B ρ' H m w ∧ avOf P m ρ' B.fr H = avOf P m ρ B.fr H := by
  have hob : ∀ o, (hget H o).mapv (outVar 0 n) id = hget H o := fun o => SObj.map_closed (fun i hi => longer_var hi) _ (hc o)
  have hreg : ∀ o off, region P ρ' (hget H o) off ↔ region P ρ (hget H o) off := by
    intro o off
    have := region_map (P := P) (f := outVar 0 n) (g := id) (longer_den hl ha) (hget H o) off
    rw [hob] at this; exact this
  have hav : avOf P m ρ' B.fr H = avOf P m ρ B.fr H := by unfold avOf; funext b off; simp only [hreg]
  refine ⟨⟨fun o => ?_, h.inj, h.base, h.ext, by rw [hav]; exact h.keep, h.apart, h.old⟩, hav⟩
  have := ObjOk.map (P := P) (w := w) (m := m) (av := avOf P m ρ B.fr H) (f := outVar 0 n) (g := id) (longer_den hl ha) (p := m o) (hget H o)
  rw [hob] at this
  rw [hav]
  exact this.2 (h.ok o)
end

/-- A state is run: frame, world, places. -/
structure Run (C : Ctx) (B : Base) (ρ : List D) (m0 : Pl) (S : SSt) (a : Act) (w : World) (m : Pl) : Prop where
  mod : Mod C.P B ρ S a w m
  fresh : ∀ o, S.heap.length ≤ o → m o = none
  kept : KeptAt C m0 m S.heap
  k : C.k ≤ S.heap.length
def Ex.to : Ex → Exit
  | .normal => .normal
  | .exit n => .exit n
  | .ret => .ret
/-- What code is to do: a tree and its leaves tell it. -/
def SymOk (C : Ctx) (W0 : World) (Φ : Nat → List D → Option (Nat × List D)) (c : Code) (S : SSt) (t : T) (l : List Leaf) : Prop :=
  t.ok false = true ∧ ∀ {ρ ρ' : List D} {j : Nat}, ρ.length = S.nv → t.den Φ 0 ρ = some (j, ρ') → ∃ e S' more, l[j]? = some (e, S') ∧ ρ' = ρ ++ more ∧ ρ'.length = S'.nv ∧
    ∀ (B : Base) (m0 : Pl) (a : Act) (w : World) (m : Pl), Under W0 B → Run C B ρ m0 S a w m → ∀ (Q : Exit → Act → World → Prop), (∀ a' w' m', Run C B ρ' m0 S' a' w' m' → Q e.to a' w') → c.wp C.P Q a w

/-- How the context is made. -/
structure CtxOk (C : Ctx) (W0 : World) (Φ : Nat → List D → Option (Nat × List D)) : Prop where
  cons : Kept C W0 Φ
  nodup : C.kp.Nodup
  lt : ∀ i ∈ C.kp, i < C.k
  mixed : C.P.follows .mixedOrders = true

section
variable {C : Ctx} {W0 : World} {Φ : Nat → List D → Option (Nat × List D)}

theorem Mod.longer {B : Base} {ρ ρ' : List D} {S : SSt} {a : Act} {w : World} {m : Pl} (h : Mod C.P B ρ S a w m) (hl : ρ.length = S.nv) (ha : Agree S.nv ρ ρ') (hc : S.closed = true) : Mod C.P B ρ' S a w m := by
  simp only [SSt.closed, Bool.and_eq_true, List.all_eq_true] at hc
  obtain ⟨⟨h1, h2⟩, h3⟩ := hc
  have hcl : ∀ o, (hget S.heap o).closed S.nv = true := by
    intro o
    unfold hget
    rw [List.getD_eq_getElem?_getD]
    cases ho : S.heap[o]? with
    | none => rfl
    | some ob => exact h2 ob (List.mem_of_getElem? ho)
  obtain ⟨g1, g2⟩ := h.sim.longer hl ha hcl
  refine ⟨g1, fun i => ?_, h.len, h.defers, fun x b hx => ?_⟩
  · rw [g2, RepS.longer hl ha]
    · exact h.env i
    · rw [List.getD_eq_getElem?_getD]
      cases ho : S.env[i]? with
      | none => rfl
      | some s => exact h1 s (List.mem_of_getElem? ho)
  · rw [X.closed_den ha x (h3 (x, b) hx)]; exact h.facts x b hx

theorem agree_append (ρ more : List D) : Agree ρ.length ρ (ρ ++ more) := by
  intro i hi
  rw [List.getD_eq_getElem?_getD, List.getD_eq_getElem?_getD, List.getElem?_append_left hi]

theorem symRegion_ok (hC : CtxOk C W0 Φ) {id : Nat} {ops : Array Oper} {draw : Bool} {S : SSt} {t : T} {l : List Leaf} (h : symRegion C ops draw S = some (t, l)) : SymOk C W0 Φ (.region id ops draw) S t l := by
  unfold symRegion at h
  split at h
  rotate_left
  · cases h
  rename_i t0 l0 hs
  split at h
  · cases h
  rename_i hnv
  simp only [Bool.not_eq_true', Bool.not_eq_false, Bool.or_eq_true, List.all_eq_true, beq_iff_eq] at hnv
  split at h
  rotate_left
  · cases h
  rename_i hdr
  simp only [Option.some.injEq, Prod.mk.injEq] at h
  obtain ⟨rfl, rfl⟩ := h
  obtain ⟨hok, hpath⟩ := symOps_path hC.cons ops.toList 0 S [] hs
  refine ⟨hok, fun {ρ ρ' j} hlen hd => ?_⟩
  obtain ⟨S', es, more, h1, h2, h3, h4, h5⟩ := hpath hlen hd
  refine ⟨.normal, S', more, by rw [List.getElem?_map, h1]; rfl, h3, h4, ?_⟩
  intro B m0 a w m hB hR Q hQ
  have hM' : Mod C.P B ρ' S a w m := by
    rcases hnv with hnv | hcl
    · have e1 := hnv _ (List.mem_of_getElem? h1)
      have : more = [] := by
        have e2 := congrArg List.length h3
        rw [List.length_append, h4, e1, hlen] at e2
        exact List.eq_nil_of_length_eq_zero (by omega)
      subst this
      rw [h3, List.append_nil]; exact hR.mod
    · exact hR.mod.longer hlen (by rw [h3, ← hlen]; exact agree_append ρ more) hcl
  obtain ⟨h6, h7⟩ := h5 ρ' (fun _ _ => rfl) hM'.facts
  have hkp1 : ∀ i ∈ C.kp, i < S.heap.length := fun i hi => Nat.lt_of_lt_of_le (hC.lt i hi) hR.k
  cases draw with
  | false =>
    refine wp_region ?_
    have := path_run hB (m0 := m0) (Q := Q) h2 h6 (fun j => by simp) hM'.ful hR.fresh hR.kept hkp1 hR.k (fun a' w' m' g1 g2 g3 g4 => hQ a' w' m' ⟨g1.mod h7, g2, g3, g4⟩)
    rwa [Array.length_toList, ← List.range_eq_range'] at this
  | true =>
    simp only [Bool.not_true, Bool.false_or, Bool.and_eq_true, List.all_eq_true] at hdr
    have htr := hdr.2 _ (List.mem_of_getElem? h1)
    simp only [List.append_nil] at htr
    refine wp_region_any hC.mixed ?_
    obtain ⟨g1, g2⟩ := hM'.sim.still (Ext.drew w)
    have hF : Ful C.P B ρ' S.env S.heap a w.drew m := ⟨g1, fun i => (hM'.env i).keeps g2 (Pl.le_refl m) _, hM'.len, hM'.defers⟩
    have hnone : ∀ i, (Array.replicate ops.size false).getD i true = true → ops.size ≤ i := by
      intro i hi
      rcases Nat.lt_or_ge i ops.size with hlt | hge
      · simp [Array.getD_eq_getD_getElem?, hlt] at hi
      · exact hge
    have hes : ∀ e ∈ es, e.i < ops.size := by
      intro e he
      obtain ⟨k, hk⟩ := List.getElem?_of_mem he
      have k1 : es.length = ops.size := by rw [h2.index.1, Array.length_toList]
      have k2 : e.i = k := by rw [(h2.index.2 k e hk).1, Nat.zero_add]
      have hlt : k < es.length := (List.getElem?_eq_some_iff.1 hk).1
      rw [k2, ← k1]; exact hlt
    refine drawn_run (B := B) hB h2 h6 htr hdr.1 (m1 := m) (Q := Q) (fun a' w' m' k1 k2 k3 => hQ a' w' m' ⟨k1.mod h7, k2, fun i hi hl => ?_, ?_⟩) ops.size _ a w.drew m (by simp) ?_ (fun j hj hlj => ?_) ?_ (fun o ho hmo => (hmo (hR.fresh o ho)).elim) (fun _ _ => rfl)
    · -- what stays
      have hi' := hkp1 i hi
      rw [k3 i hi']
      refine hR.kept i hi fun hd => hl ?_
      -- symbolic: what was dead stays dead
      have key : ∀ {l : List Oper} {i0 : Nat} {S1 : SSt} {es : List Tr}, Path l i0 S1 es S' → (∀ e ∈ es, TrOk C W0 ops true ρ' e) → i < S1.heap.length → hget S1.heap i = .dead → hget S'.heap i = .dead := by
        intro l
        induction l with
        | nil =>
          intro i0 S1 es hp _ _ hd
          rcases es with _ | ⟨_, _⟩
          · simp only [Path] at hp; subst hp; exact hd
          · simp [Path] at hp
        | cons o l ih =>
          intro i0 S1 es hp htr hlt hd
          rcases es with _ | ⟨e, es⟩
          · simp [Path] at hp
          · obtain ⟨e1, e2, e3, e4, e5, hp⟩ := hp
            refine ih hp (fun x hx => htr x (List.mem_cons_of_mem _ hx)) ?_ ?_
            · have := (length_hsets e.d.sets e.S.heap).1
              have h9 : e.after.heap.length = (hsets e.S.heap e.d.sets).length := rfl
              rw [e4] at this h9
              omega
            · show hget (hsets e.S.heap e.d.sets) i = .dead
              rw [e4]
              have hte := htr e (List.mem_cons_self ..)
              refine (hget_hsets_out _ _ _ fun q hq e6 => ?_).trans hd
              cases hw : e.wanted with
              | false => obtain ⟨_, g⟩ := hte.skip hw; rw [g] at hq; simp at hq
              | true =>
                obtain ⟨_, ds, ρ0, j, ρ1, g2, g3, g4, g5⟩ := hte.run hw
                simp only [setsOk, List.all_eq_true, Bool.and_eq_true, Bool.or_eq_true, decide_eq_true_eq] at g5
                rcases (g5 q hq).1 with h | h
                · rw [e4] at h; omega
                · have hh : hget (miniOf true ops e.o e.S).2.heap q.1 = if (miniOf true ops e.o e.S).1.contains q.1 then hget e.S.heap q.1 else .dead := by
                    show hget (keepObjs _ 0 e.S.heap) q.1 = _
                    rw [keepObjs_hget, Nat.zero_add]; rfl
                  rw [hh, e4, e6, hd] at h
                  split at h <;> simp [isWr] at h
      exact key h2 h6 hi' hd
    · exact Nat.le_trans hR.k h2.lens.2
    · unfold toCome
      exact Nat.le_trans (List.countP_le_length ..) (by simp)
    · have := hnone j hlj; omega
    · have : appL (fun i => (Array.replicate ops.size false).getD i true) es (S.env, S.heap) = (S.env, S.heap) := by
        have hcg : ∀ e ∈ es, (Array.replicate ops.size false).getD e.i true = false := by
          intro e he
          have := hes e he
          simp [Array.getD_eq_getD_getElem?, this]
        rw [appL_congr (L := fun i => (Array.replicate ops.size false).getD i true) (L' := fun _ => false) hcg, appL_none]
      rw [this]; exact hF
end
end Go.RX
namespace Go.RX

section
variable {C : Ctx} {W0 : World} {Φ : Nat → List D → Option (Nat × List D)}

theorem mod_reps {P : Program} {B : Base} {ρ : List D} {S : SSt} {a : Act} {w : World} {m : Pl} (h : Mod P B ρ S a w m) : RepSs P w (avOf P m ρ B.fr S.heap) m ρ S.env a.tmps.toList := by
  have : ∀ (ss : List SV) (vs : List Value) (av : Av), ss.length = vs.length → (∀ i, RepS P w av m ρ (ss.getD i .any) (vs.getD i Go.undef)) → RepSs P w av m ρ ss vs := by
    intro ss
    induction ss with
    | nil => intro vs av hl _; cases vs with
      | nil => trivial
      | cons _ _ => simp at hl
    | cons s ss ih => intro vs av hl hr; cases vs with
      | nil => simp at hl
      | cons v vs => exact ⟨by simpa using hr 0, ih vs av (by simpa using hl) (fun i => by simpa using hr (i + 1))⟩
  refine this _ _ _ (by simpa using h.len) fun i => ?_
  have := h.env i
  rwa [show a.tmps.getD i Go.undef = a.tmps.toList.getD i Go.undef by simp [Array.getD_eq_getD_getElem?, List.getD_eq_getElem?_getD]] at this
theorem reps_getD {P : Program} {w : World} {av : Av} {m : Pl} {ρ : List D} : ∀ {ss : List SV} {vs : List Value}, RepSs P w av m ρ ss vs → ∀ i, RepS P w av m ρ (ss.getD i .any) (vs.getD i Go.undef)
  | [], [], _, i => by simp [RepS]
  | s :: ss, v :: vs, h, 0 => by simpa using h.1
  | s :: ss, v :: vs, h, i + 1 => by simpa using reps_getD h.2 i
  | [], _ :: _, h, _ => h.elim
  | _ :: _, [], h, _ => h.elim

theorem nodup_pairs : ∀ {l : List Nat}, l.Nodup → RenOk (l.map fun i => (i, i)) := by
  intro l h
  simp only [RenOk, List.map_map]
  have : ((fun q : Nat × Nat => q.1) ∘ fun i => (i, i)) = id := rfl
  have h2 : ((fun q : Nat × Nat => q.2) ∘ fun i => (i, i)) = id := rfl
  rw [this, h2, List.map_id]
  exact ⟨h, h⟩
theorem keepers_ok (pat : List SObj) {kp : List Nat} (h : kp.Nodup) : RenOk (keepers pat kp) := nodup_pairs (h.filter _)
theorem isLive_iff {ob : SObj} : isLive ob = true ↔ ob ≠ .dead := by cases ob <;> simp [isLive]

/-- A match carries a state over. -/
theorem matchLeaf_ok (hC : CtxOk C W0 Φ) {n0 : Nat} {Q S : SSt} {xs : List X} (h : matchLeaf C n0 Q S = some xs) (hl : leafOk C n0 Q = true) {B : Base} {ρ : List D} {m0 : Pl} {a : Act} {w : World} {m : Pl} (hρ : n0 ≤ ρ.length) (hR : Run C B ρ m0 S a w m) :
    ∃ mp, Run C B (ρ.take n0 ++ xs.map (·.den ρ)) m0 Q a w mp ∧ (ρ.take n0 ++ xs.map (·.den ρ)).length = Q.nv := by
  unfold matchLeaf at h
  split at h
  · rename_i r hr
    obtain ⟨xs', M⟩ := r
    cases h
    simp only [leafOk, Bool.and_eq_true, decide_eq_true_eq, List.isEmpty_iff] at hl
    obtain ⟨⟨l1, l2⟩, l3⟩ := hl
    have hM := matchAll_matched hr (keepers_ok Q.heap hC.nodup)
    obtain ⟨mp, g1, g2, g3, g4⟩ := hM.join hR.mod.sim hρ (fun o h1 _ => hR.fresh o h1)
    have hreps := g2 _ (mod_reps hR.mod)
    refine ⟨mp, ⟨⟨g1, fun i => ?_, ?_, hR.mod.defers, by rw [l1]; intro x b hx; cases hx⟩, fun r hr => g3 r (hget_none hr), fun i hi hl' => ?_, l3⟩, ?_⟩
    · have := reps_getD hreps i
      rwa [show a.tmps.getD i Go.undef = a.tmps.toList.getD i Go.undef by simp [Array.getD_eq_getD_getElem?, List.getD_eq_getElem?_getD]]
    · have := hreps.length
      simpa using this
    · have hk : (i, i) ∈ keepers Q.heap C.kp := List.mem_map.2 ⟨i, List.mem_filter.2 ⟨hi, isLive_iff.2 hl'⟩, rfl⟩
      have hlt : i < S.heap.length := Nat.lt_of_lt_of_le (hC.lt i hi) hR.k
      rw [g4 _ hk hlt]
      refine hR.kept i hi ?_
      rcases (hM.objs hR.mod.sim hρ (fun o h1 _ => hR.fresh o h1) (FrozIn.frost S.heap M.frz) (hM.ren _ hk)).2 with ⟨h1, _⟩ | ⟨_, h1, _⟩
      · omega
      · exact h1
    · simp [hM.len]; omega
  · cases h

/-- what the leaves are called -/
theorem labels_spec {n0 : Nat} {A : Live} {Q : SSt} : ∀ {la : List Leaf} {k : Nat} {ts : List T} {outs : List Leaf}, labels C n0 A Q la k = some (ts, outs) → ∀ (j : Nat) (e : Ex) (S : SSt), la[j]? = some (e, S) →
    (e = .normal ∧ ∃ xs, matchLeaf C n0 Q S = some xs ∧ ts[j]? = some (.y 0 (.ofL xs))) ∨
    (e ≠ .normal ∧ ∃ i R xs, ts[j]? = some (.y (k + i + 1) (.ofL xs)) ∧ outs[i]? = some (e, R) ∧ matchLeaf C n0 R S = some xs)
  | [], k, ts, outs, h, j, e, S, hj => by simp at hj
  | (.normal, S0) :: l, k, ts, outs, h, j, e, S, hj => by
    simp only [labels] at h
    split at h
    · rename_i xs ts' ls h1 h2
      cases h
      cases j with
      | zero => simp at hj; obtain ⟨rfl, rfl⟩ := hj; exact .inl ⟨rfl, xs, h1, rfl⟩
      | succ j => exact (labels_spec h2 j e S (by simpa using hj)).imp (fun ⟨h, xs, h1, h2⟩ => ⟨h, xs, h1, by simpa using h2⟩) (fun ⟨hne, i, R, xs, h1, h2, h3⟩ => ⟨hne, i, R, xs, by simpa using h1, h2, h3⟩)
    · cases h
  | (.ret, S0) :: l, k, ts, outs, h, j, e, S, hj => by
    simp only [labels] at h
    split at h
    · rename_i xs ts' ls h1 h2
      cases h
      cases j with
      | zero => simp at hj; obtain ⟨rfl, rfl⟩ := hj; exact .inr ⟨by simp, 0, _, xs, rfl, rfl, h1⟩
      | succ j => exact (labels_spec h2 j e S (by simpa using hj)).imp (fun ⟨h, xs, h1, h2⟩ => ⟨h, xs, h1, by simpa using h2⟩) (fun ⟨hne, i, R, xs, h1, h2, h3⟩ => ⟨hne, i + 1, R, xs, by rw [List.getElem?_cons_succ, h1]; congr 2; omega, by simpa using h2, h3⟩)
    · cases h
  | (.exit x, S0) :: l, k, ts, outs, h, j, e, S, hj => by
    simp only [labels] at h
    split at h
    · rename_i xs ts' ls h1 h2
      cases h
      cases j with
      | zero => simp at hj; obtain ⟨rfl, rfl⟩ := hj; exact .inr ⟨by simp, 0, _, xs, rfl, rfl, h1⟩
      | succ j => exact (labels_spec h2 j e S (by simpa using hj)).imp (fun ⟨h, xs, h1, h2⟩ => ⟨h, xs, h1, by simpa using h2⟩) (fun ⟨hne, i, R, xs, h1, h2, h3⟩ => ⟨hne, i + 1, R, xs, by rw [List.getElem?_cons_succ, h1]; congr 2; omega, by simpa using h2, h3⟩)
    · cases h

theorem matchLeaf_len (hC : CtxOk C W0 Φ) {n0 : Nat} {Q S : SSt} {xs : List X} (h : matchLeaf C n0 Q S = some xs) (hl : leafOk C n0 Q = true) : n0 + xs.length = Q.nv := by
  unfold matchLeaf at h
  split at h
  · rename_i r hr
    obtain ⟨xs', M⟩ := r
    cases h
    have hM := matchAll_matched hr (keepers_ok Q.heap hC.nodup)
    simp only [leafOk, Bool.and_eq_true, decide_eq_true_eq] at hl
    rw [hM.len]; omega
  · cases h
theorem take_more {ρ more : List D} {n : Nat} (h : ρ.length = n) : (ρ ++ more).take n = ρ := by subst h; simp

/-- The leaves are joined. -/
theorem joinLeaves_ok (hC : CtxOk C W0 Φ) {c : Code} {S : SSt} {t t' : T} {l l' : List Leaf} {A : Live} (hs : SymOk C W0 Φ c S t l) (h : joinLeaves C S.nv A t l = some (t', l')) : SymOk C W0 Φ c S t' l' := by
  unfold joinLeaves at h
  dsimp only at h
  split at h
  rotate_left
  · cases h
  rename_i ys outs hlab
  split at h
  rotate_left
  · cases h
  rename_i hchk
  simp only [Bool.and_eq_true, List.all_eq_true] at hchk
  simp only [Option.some.injEq, Prod.mk.injEq] at h
  obtain ⟨rfl, rfl⟩ := h
  refine ⟨by simp only [T.ok]; exact ofAlts_ok fun t ht => by obtain ⟨i, _, rfl⟩ := List.mem_map.1 ht; rfl, fun {ρ ρ' j} hlen hd => ?_⟩
  simp only [T.den, Option.bind_eq_some_iff] at hd
  obtain ⟨⟨j1, vals⟩, h1, h2⟩ := hd
  rw [graft_den' hs.1, Option.bind_eq_some_iff] at h1
  obtain ⟨⟨j0, ρ1⟩, h3, h4⟩ := h1
  obtain ⟨hj, e⟩ := lfs_den h2
  cases e
  obtain ⟨e, S1, more, k1, k2, k3, k4⟩ := hs.2 hlen h3
  simp only at h4
  rcases labels_spec hlab j0 e S1 k1 with ⟨rfl, xs, g1, g2⟩ | ⟨_, i, R, xs, g1, g2, g3⟩
  · simp only [List.getD_eq_getElem?_getD, g2, Option.getD_some, T.den, xofL_den, Option.some.injEq, Prod.mk.injEq] at h4
    obtain ⟨rfl, rfl⟩ := h4
    have htk : ρ1.take S.nv = ρ := by rw [k2]; exact take_more hlen
    have hmt := fun {B : Base} {m0 : Pl} {a : Act} {w : World} {m : Pl} (hR : Run C B ρ1 m0 S1 a w m) => matchLeaf_ok hC g1 hchk.1 (ρ := ρ1) (by rw [k2, List.length_append]; omega) hR
    rw [htk] at hmt
    refine ⟨.normal, _, xs.map (·.den ρ1), rfl, rfl, ?_, fun B m0 a w m hB hR Q hQ => k4 B m0 a w m hB hR Q fun a' w' m' hR' => ?_⟩
    · unfold matchLeaf at g1
      split at g1
      · rename_i r hr
        obtain ⟨xs', M⟩ := r
        cases g1
        have hM := matchAll_matched hr (keepers_ok _ hC.nodup)
        have hl := hchk.1
        simp only [leafOk, Bool.and_eq_true, decide_eq_true_eq] at hl
        simp only [List.length_append, List.length_map, hM.len, hlen]
        omega
      · cases g1
    · obtain ⟨mp, r1, r2⟩ := hmt hR'
      exact hQ a' w' mp r1
  · simp only [List.getD_eq_getElem?_getD, g1, Option.getD_some, T.den, xofL_den, Option.some.injEq, Prod.mk.injEq, Nat.zero_add] at h4
    obtain ⟨rfl, rfl⟩ := h4
    have htk : ρ1.take S.nv = ρ := by rw [k2]; exact take_more hlen
    have hlo := hchk.2 _ (List.mem_of_getElem? g2)
    have hmt := fun {B : Base} {m0 : Pl} {a : Act} {w : World} {m : Pl} (hR : Run C B ρ1 m0 S1 a w m) => matchLeaf_ok hC g3 hlo (ρ := ρ1) (by rw [k2, List.length_append]; omega) hR
    rw [htk] at hmt
    refine ⟨e, R, xs.map (·.den ρ1), by simpa using g2, rfl, ?_, fun B m0 a w m hB hR Q hQ => k4 B m0 a w m hB hR Q fun a' w' m' hR' => ?_⟩
    · unfold matchLeaf at g3
      split at g3
      · rename_i r hr
        obtain ⟨xs', M⟩ := r
        cases g3
        have hM := matchAll_matched hr (keepers_ok _ hC.nodup)
        simp only [leafOk, Bool.and_eq_true, decide_eq_true_eq] at hlo
        simp only [List.length_append, List.length_map, hM.len, hlen]
        omega
      · cases g3
    · obtain ⟨mp, r1, r2⟩ := hmt hR'
      exact hQ a' w' mp r1

/-- A loop whose rounds are counted. -/
theorem wp_loop_count {P : Program} {c : Code} {Q : Exit → Act → World → Prop} (J : Nat → Act → World → Prop)
    (round : ∀ n a w, J n a w → c.wp P (Exit.then (fun a' w' => ∃ n', n' < n ∧ J n' a' w') Q) a w) : ∀ n a w, J n a w → (Code.loop c).wp P Q a w := by
  intro n a w hJ
  have hmin : ∀ a w, (∃ n, J n a w) → ∃ n, J n a w ∧ ∀ k, J k a w → n ≤ k := by
    intro a w ⟨n, hn⟩
    induction n using Nat.strongRecOn with
    | _ n ih =>
      by_cases hx : ∃ k, k < n ∧ J k a w
      · obtain ⟨k, h1, h2⟩ := hx
        exact ih k h1 h2
      · exact ⟨n, hn, fun k hk => Nat.le_of_not_lt fun h => hx ⟨k, h, hk⟩⟩
  let μ : Act → World → Nat := fun a w => @dite Nat (∃ n, J n a w) (Classical.propDecidable _) (fun h => Classical.choose (hmin a w h)) (fun _ => 0)
  have hμ : ∀ a w, (∃ n, J n a w) → J (μ a w) a w ∧ ∀ k, J k a w → μ a w ≤ k := by
    intro a w h
    have : μ a w = Classical.choose (hmin a w h) := dif_pos h
    rw [this]
    exact Classical.choose_spec (hmin a w h)
  refine wp_loop (fun a w => ∃ n, J n a w) μ ⟨n, hJ⟩ fun a w hI => ?_
  obtain ⟨h1, h2⟩ := hμ a w hI
  refine wp_mono (round _ a w h1) fun e a' w' hq => ?_
  cases e with
  | normal =>
    obtain ⟨n', h3, h4⟩ := hq
    exact ⟨⟨n', h4⟩, Nat.lt_of_le_of_lt ((hμ a' w' ⟨n', h4⟩).2 n' h4) h3⟩
  | exit _ => exact hq
  | goto _ => exact hq
  | ret => exact hq
  | panic _ => exact hq
  | outgrown => exact hq
end
end Go.RX
namespace Go.RX

section
variable {C : Ctx} {W0 : World} {Φ : Nat → List D → Option (Nat × List D)}

theorem loopFix_spec {run : SSt → Option (T × List Leaf)} {n0 L : Nat} : ∀ {fuel : Nat} {Q0 Q : SSt} {t : T} {la : List Leaf}, loopFix C run n0 L fuel Q0 = some (Q, t, la) → run Q = some (t, la)
  | 0, _, _, _, _, h => by simp [loopFix] at h
  | fuel + 1, Q0, Q, t, la, h => by
    simp only [loopFix] at h
    split at h
    · cases h
    · rename_i t0 la0 h0
      split at h
      · cases h; exact h0
      · exact loopFix_spec h

theorem loopD_iter {body : List D → Option (Nat × List D)} {st : List D} {r : Nat × List D} (h : loopD body st = some r) : ∃ n, iter body n st = some r := by
  unfold loopD at h
  split at h
  · exact ⟨_, h⟩
  · cases h

theorem unroll_static {b : Code} {run : SSt → Option (T × List Leaf)} (hrun : ∀ S t l, run S = some (t, l) → SymOk C W0 Φ b S t l) : ∀ {n : Nat} {S : SSt} {t : T} {l : List Leaf}, unroll run n S = some (t, l) →
    t.ok false = true ∧ ∀ {ρ ρ' : List D} {j : Nat}, ρ.length = S.nv → t.den Φ 0 ρ = some (j, ρ') → ∃ e S' more, l[j]? = some (e, S') ∧ ρ' = ρ ++ more ∧ ρ'.length = S'.nv
  | 0, _, _, _, h => by simp [unroll] at h
  | n + 1, S, t, l, h => by
    simp only [unroll] at h
    split at h
    · rename_i t0 l0 h0
      have hs := hrun S t0 l0 h0
      obtain ⟨hok, hden⟩ := onLeaves_den (Φ := Φ) h hs.1 (fun q _ x hx => by
        obtain ⟨e, s⟩ := q
        cases e with
        | normal => exact (unroll_static hrun hx).1
        | ret => cases hx; rfl
        | exit _ => cases hx; rfl)
      refine ⟨hok, fun {ρ ρ' j} hlen hd => ?_⟩
      obtain ⟨j0, ρ1, h1, h2⟩ := hden hd
      obtain ⟨e, S1, more, k1, k2, k3, _⟩ := hs.2 hlen h1
      obtain ⟨t1, l1, j1, g1, g2, g3⟩ := h2 _ k1
      cases e with
      | normal =>
        obtain ⟨e2, S2, more2, m1, m2, m3⟩ := (unroll_static hrun g1).2 k3 g2
        exact ⟨e2, S2, more ++ more2, g3 _ m1, by rw [m2, k2, List.append_assoc], m3⟩
      | ret =>
        cases g1
        simp only [T.den, Option.some.injEq, Prod.mk.injEq] at g2
        obtain ⟨rfl, rfl⟩ := g2
        exact ⟨_, _, more, g3 _ rfl, k2, k3⟩
      | exit _ =>
        cases g1
        simp only [T.den, Option.some.injEq, Prod.mk.injEq] at g2
        obtain ⟨rfl, rfl⟩ := g2
        exact ⟨_, _, more, g3 _ rfl, k2, k3⟩
    · cases h

theorem unroll_ok {b : Code} {run : SSt → Option (T × List Leaf)} (hrun : ∀ S t l, run S = some (t, l) → SymOk C W0 Φ b S t l) {n : Nat} {S : SSt} {t : T} {l : List Leaf} (h : unroll run n S = some (t, l)) : SymOk C W0 Φ (.loop b) S t l := by
  obtain ⟨hok, hst⟩ := unroll_static hrun h
  refine ⟨hok, fun {ρ ρ' j} hlen hd => ?_⟩
  obtain ⟨eF, SF, more, k1, k2, k3⟩ := hst hlen hd
  refine ⟨eF, SF, more, k1, k2, k3, fun B m0 a w m hB hR Q hQ => ?_⟩
  refine wp_loop_count (fun n a w => ∃ S ρ t l j m, unroll run n S = some (t, l) ∧ ρ.length = S.nv ∧ t.den Φ 0 ρ = some (j, ρ') ∧ l[j]? = some (eF, SF) ∧ Run C B ρ m0 S a w m) ?_ n a w ⟨S, ρ, t, l, j, m, h, hlen, hd, k1, hR⟩
  rintro n a w ⟨S, ρ, t, l, j, m, h, hlen, hd, k1, hR⟩
  cases n with
  | zero => simp [unroll] at h
  | succ n =>
    simp only [unroll] at h
    split at h
    · rename_i t0 l0 h0
      have hs := hrun S t0 l0 h0
      obtain ⟨_, hden⟩ := onLeaves_den (Φ := Φ) h hs.1 (fun q _ x hx => by
        obtain ⟨e, s⟩ := q
        cases e with
        | normal => exact (unroll_static hrun hx).1
        | ret => cases hx; rfl
        | exit _ => cases hx; rfl)
      obtain ⟨j0, ρ1, h1, h2⟩ := hden hd
      obtain ⟨e, S1, more, q1, q2, q3, q4⟩ := hs.2 hlen h1
      obtain ⟨t1, l1, j1, g1, g2, g3⟩ := h2 _ q1
      refine q4 B m0 a w m hB hR _ fun a' w' m' hR' => ?_
      cases e with
      | normal =>
        obtain ⟨e2, S2, more2, m1, m2, m3⟩ := (unroll_static hrun g1).2 q3 g2
        have := g3 _ m1
        rw [k1] at this
        cases this
        exact ⟨n, Nat.lt_succ_self n, S1, ρ1, t1, l1, j1, m', g1, q3, g2, m1, hR'⟩
      | ret =>
        cases g1
        simp only [T.den, Option.some.injEq, Prod.mk.injEq] at g2
        obtain ⟨rfl, rfl⟩ := g2
        have := g3 _ rfl
        rw [k1] at this
        cases this
        exact hQ a' w' m' hR'
      | exit _ =>
        cases g1
        simp only [T.den, Option.some.injEq, Prod.mk.injEq] at g2
        obtain ⟨rfl, rfl⟩ := g2
        have := g3 _ rfl
        rw [k1] at this
        cases this
        exact hQ a' w' m' hR'
    · cases h

theorem symLoop_ok (hC : CtxOk C W0 Φ) {b : Code} {run : Live → SSt → Option (T × List Leaf)} (hrun : ∀ A S t l, run A S = some (t, l) → SymOk C W0 Φ b S t l) {A : Live} {L : Nat} {S : SSt} {t : T} {l : List Leaf} (h : symLoop C run A L S = some (t, l)) :
    SymOk C W0 Φ (.loop b) S t l := by
  unfold symLoop at h
  dsimp only at h
  split at h
  · exact unroll_ok (hrun _) h
  split at h
  · cases h
  rename_i Q t0 la hfix
  have hr := hrun _ _ _ _ (loopFix_spec hfix)
  split at h
  rotate_left
  · cases h
  rename_i init ys outs hinit hlab
  split at h
  rotate_left
  · cases h
  rename_i hchk
  simp only [Bool.and_eq_true, List.all_eq_true] at hchk
  simp only [Option.some.injEq, Prod.mk.injEq] at h
  obtain ⟨rfl, rfl⟩ := h
  refine ⟨by simp only [T.ok]; exact ofAlts_ok fun t ht => by obtain ⟨i, _, rfl⟩ := List.mem_map.1 ht; rfl, fun {ρ ρ' j} hlen hd => ?_⟩
  simp only [T.den, Option.bind_eq_some_iff, xofL_den] at hd
  obtain ⟨⟨lbl, vals⟩, h1, h2⟩ := hd
  obtain ⟨N, hN⟩ := loopD_iter h1
  let body : List D → Option (Nat × List D) := fun st => (t0.graft fun i => ys.getD i .nil).den Φ 0 (ρ ++ st)
  have round : ∀ {st : List D} {r1 : Nat × List D}, (ρ ++ st).length = Q.nv → body st = some r1 →
      (r1.1 = 0 ∧ (ρ ++ r1.2).length = Q.nv ∧ ∀ (B : Base) (m0 : Pl) (a : Act) (w : World) (m : Pl), Under W0 B → Run C B (ρ ++ st) m0 Q a w m → ∀ (K : Exit → Act → World → Prop), (∀ a' w' m', Run C B (ρ ++ r1.2) m0 Q a' w' m' → K .normal a' w') → b.wp C.P K a w) ∨
      (∃ i e R, r1.1 = i + 1 ∧ outs[i]? = some (e, R) ∧ e ≠ .normal ∧ (ρ ++ r1.2).length = R.nv ∧ ∀ (B : Base) (m0 : Pl) (a : Act) (w : World) (m : Pl), Under W0 B → Run C B (ρ ++ st) m0 Q a w m →
        ∀ (K : Exit → Act → World → Prop), (∀ a' w' m', Run C B (ρ ++ r1.2) m0 R a' w' m' → K e.to a' w') → b.wp C.P K a w) := by
    intro st r1 hst hb
    have hb' : (t0.graft fun i => ys.getD i .nil).den Φ 0 (ρ ++ st) = some r1 := hb
    rw [graft_den' hr.1, Option.bind_eq_some_iff] at hb'
    obtain ⟨⟨j0, ρ1⟩, g1, g2⟩ := hb'
    obtain ⟨e, S1, more, k1, k2, k3, k4⟩ := hr.2 hst g1
    simp only at g2
    have htk : ρ1.take S.nv = ρ := by rw [k2, List.append_assoc]; exact take_more hlen
    rcases labels_spec hlab j0 e S1 k1 with ⟨rfl, xs, m1, m2⟩ | ⟨hne, i, R, xs, m1, m2, m3⟩
    · simp only [List.getD_eq_getElem?_getD, m2, Option.getD_some, T.den, xofL_den, Option.some.injEq] at g2
      subst g2
      refine .inl ⟨rfl, ?_, fun B m0 a w m hB hR K hK => k4 B m0 a w m hB hR K fun a' w' m' hR' => ?_⟩
      · have := matchLeaf_len hC m1 hchk.1
        simp only [List.length_append, List.length_map, hlen]
        exact this
      · obtain ⟨mp, r1, r2⟩ := matchLeaf_ok hC m1 hchk.1 (ρ := ρ1) (by rw [k2, List.append_assoc, List.length_append]; omega) hR'
        rw [htk] at r1
        exact hK a' w' mp r1
    · simp only [List.getD_eq_getElem?_getD, m1, Option.getD_some, T.den, xofL_den, Option.some.injEq, Nat.zero_add] at g2
      subst g2
      have hlo := hchk.2 _ (List.mem_of_getElem? m2)
      refine .inr ⟨i, e, R, rfl, m2, hne, ?_, fun B m0 a w m hB hR K hK => k4 B m0 a w m hB hR K fun a' w' m' hR' => ?_⟩
      · have := matchLeaf_len hC m3 hlo
        simp only [List.length_append, List.length_map, hlen]
        exact this
      · obtain ⟨mp, r1, r2⟩ := matchLeaf_ok hC m3 hlo (ρ := ρ1) (by rw [k2, List.append_assoc, List.length_append]; omega) hR'
        rw [htk] at r1
        exact hK a' w' mp r1
  have static : ∀ (n : Nat) (st : List D), (ρ ++ st).length = Q.nv → iter body n st = some (lbl, vals) → ∃ i e R, lbl = i + 1 ∧ outs[i]? = some (e, R) ∧ e ≠ .normal ∧ (ρ ++ vals).length = R.nv := by
    intro n
    induction n with
    | zero => intro st _ hi; simp [iter] at hi
    | succ n ih =>
      intro st hst hi
      simp only [iter] at hi
      split at hi
      · rename_i st' hb
        rcases round hst hb with ⟨_, h4, _⟩ | ⟨i, e, R, h3, _⟩
        · exact ih st' h4 hi
        · simp at h3
      · rename_i hno
        rcases round hst hi with ⟨h3, h4, _⟩ | ⟨i, e, R, h3, h4, h5, h6, _⟩
        · simp only at h3
          exact (hno vals (by rw [← h3]; exact hi)).elim
        · exact ⟨i, e, R, h3, h4, h5, h6⟩
  have hinl : (ρ ++ init.map (·.den ρ)).length = Q.nv := by
    have := matchLeaf_len hC hinit hchk.1
    simp only [List.length_append, List.length_map, hlen]
    exact this
  obtain ⟨i, e, R, hl, ho, hne, hlR⟩ := static N _ hinl hN
  subst hl
  simp only at h2
  obtain ⟨hj, e2⟩ := lfs_den h2
  cases e2
  refine ⟨e, R, vals, ho, rfl, hlR, fun B m0 a w m hB hR K hK => ?_⟩
  refine wp_loop_count (fun n a w => ∃ st m, (ρ ++ st).length = Q.nv ∧ iter body n st = some (j + 1, vals) ∧ Run C B (ρ ++ st) m0 Q a w m) ?_ N a w ?_
  · rintro n a w ⟨st, m, hst, hi, hR⟩
    cases n with
    | zero => simp [iter] at hi
    | succ n =>
      simp only [iter] at hi
      split at hi
      · rename_i st' hb
        rcases round hst hb with ⟨_, h4, h5⟩ | ⟨i', e', R', h3, _⟩
        · exact h5 B m0 a w m hB hR _ fun a' w' m' hR' => ⟨n, Nat.lt_succ_self n, st', m', h4, hi, hR'⟩
        · simp at h3
      · rcases round hst hi with ⟨h3, _⟩ | ⟨i', e', R', h3, h4, h5, h6, h7⟩
        · simp at h3
        · simp only [Nat.add_right_cancel_iff] at h3
          subst h3
          rw [ho] at h4
          cases h4
          refine h7 B m0 a w m hB hR _ fun a' w' m' hR' => ?_
          have := hK a' w' m' hR'
          cases e with
          | normal => exact (hne rfl).elim
          | ret => exact this
          | exit _ => exact this
  · obtain ⟨mp, r1, r2⟩ := matchLeaf_ok hC hinit hchk.1 (ρ := ρ) (by omega) hR
    rw [show ρ.take S.nv = ρ by rw [← hlen]; exact List.take_length] at r1
    exact ⟨_, mp, hinl, hN, r1⟩

theorem sym_ok (hC : CtxOk C W0 Φ) : ∀ (c : Code) (A : Live) (S : SSt) {t : T} {l : List Leaf}, sym C c A S = some (t, l) → SymOk C W0 Φ c S t l
  | .skip, A, S, t, l, h => by
    simp only [sym, Option.some.injEq, Prod.mk.injEq] at h
    obtain ⟨rfl, rfl⟩ := h
    refine ⟨rfl, fun {ρ ρ' j} hlen hd => ?_⟩
    simp only [T.den, Option.some.injEq, Prod.mk.injEq] at hd
    obtain ⟨rfl, rfl⟩ := hd
    exact ⟨.normal, S, [], rfl, by simp, hlen, fun B m0 a w m hB hR Q hQ => wp_skip (hQ a w m hR)⟩
  | .ret, A, S, t, l, h => by
    simp only [sym, Option.some.injEq, Prod.mk.injEq] at h
    obtain ⟨rfl, rfl⟩ := h
    refine ⟨rfl, fun {ρ ρ' j} hlen hd => ?_⟩
    simp only [T.den, Option.some.injEq, Prod.mk.injEq] at hd
    obtain ⟨rfl, rfl⟩ := hd
    exact ⟨.ret, S, [], rfl, by simp, hlen, fun B m0 a w m hB hR Q hQ => wp_ret (hQ a w m hR)⟩
  | .exit id, A, S, t, l, h => by
    simp only [sym, Option.some.injEq, Prod.mk.injEq] at h
    obtain ⟨rfl, rfl⟩ := h
    refine ⟨rfl, fun {ρ ρ' j} hlen hd => ?_⟩
    simp only [T.den, Option.some.injEq, Prod.mk.injEq] at hd
    obtain ⟨rfl, rfl⟩ := hd
    exact ⟨.exit id, S, [], rfl, by simp, hlen, fun B m0 a w m hB hR Q hQ => wp_exit (hQ a w m hR)⟩
  | .region id ops d, A, S, t, l, h => by
    simp only [sym] at h
    exact symRegion_ok hC h
  | .cond c x y, A, S, t, l, h => by
    simp only [sym] at h
    split at h
    rotate_left
    · cases h
    rename_i cx ty hc
    split at h
    · cases h
    rename_i hb
    simp only [Bool.not_eq_true', Bool.not_eq_false] at hb
    have hev : ∀ {B : Base} {ρ : List D} {m0 : Pl} {a : Act} {w : World} {m : Pl}, Run C B ρ m0 S a w m → a.eval c = .bool (cx.den ρ).toBool := by
      intro B ρ m0 a w m hR
      have := opv_rep hR.mod c C.P.rt.bool
      rw [hc] at this
      simp only [RepS] at this
      exact (this.ofBool (isBool_eq.1 hb)).1
    split at h
    · obtain ⟨h1, h2⟩ := sym_ok hC x A S h
      refine ⟨h1, fun {ρ ρ' j} hlen hd => ?_⟩
      obtain ⟨e, S', more, k1, k2, k3, k4⟩ := h2 hlen hd
      exact ⟨e, S', more, k1, k2, k3, fun B m0 a w m hB hR Q hQ => wp_cond_true (hev hR) (k4 B m0 a w m hB hR Q hQ)⟩
    · obtain ⟨h1, h2⟩ := sym_ok hC y A S h
      refine ⟨h1, fun {ρ ρ' j} hlen hd => ?_⟩
      obtain ⟨e, S', more, k1, k2, k3, k4⟩ := h2 hlen hd
      exact ⟨e, S', more, k1, k2, k3, fun B m0 a w m hB hR Q hQ => wp_cond_false (hev hR) (k4 B m0 a w m hB hR Q hQ)⟩
    · split at h
      rotate_left
      · cases h
      rename_i ta la tb lb ha hb'
      simp only [Option.some.injEq, Prod.mk.injEq] at h
      obtain ⟨rfl, rfl⟩ := h
      obtain ⟨a1, a2⟩ := sym_ok hC x A _ ha
      obtain ⟨b1, b2⟩ := sym_ok hC y A _ hb'
      refine ⟨by simp [T.ok, a1, shift_ok b1], fun {ρ ρ' j} hlen hd => ?_⟩
      have hfact : ∀ {B : Base} {m0 : Pl} {a : Act} {w : World} {m : Pl} {v : Bool}, (cx.den ρ).toBool = v → Run C B ρ m0 S a w m → Run C B ρ m0 { S with facts := (cx, v) :: S.facts } a w m := by
        intro B m0 a w m v hv hR
        refine ⟨⟨hR.mod.sim, hR.mod.env, hR.mod.len, hR.mod.defers, fun z b hz => ?_⟩, hR.fresh, hR.kept, hR.k⟩
        rcases List.mem_cons.1 hz with e | hz
        · cases e; exact hv
        · exact hR.mod.facts z b hz
      cases hv : (cx.den ρ).toBool with
      | true =>
        simp only [T.den, hv, cond_true] at hd
        obtain ⟨e, S', more, k1, k2, k3, k4⟩ := a2 hlen hd
        refine ⟨e, S', more, by rw [List.getElem?_append_left (List.getElem?_eq_some_iff.1 k1).1]; exact k1, k2, k3, fun B m0 a w m hB hR Q hQ => wp_cond_true (by rw [hev hR, hv]) (k4 B m0 a w m hB (hfact hv hR) Q hQ)⟩
      | false =>
        simp only [T.den, hv, cond_false] at hd
        rw [shift_den b1, Option.map_eq_some_iff] at hd
        obtain ⟨⟨j1, ρ1⟩, g1, g2⟩ := hd
        simp only [Prod.mk.injEq] at g2
        obtain ⟨rfl, rfl⟩ := g2
        obtain ⟨e, S', more, k1, k2, k3, k4⟩ := b2 hlen g1
        refine ⟨e, S', more, by rw [List.getElem?_append_right (by omega), Nat.add_sub_cancel]; exact k1, k2, k3, fun B m0 a w m hB hR Q hQ => wp_cond_false (by rw [hev hR, hv]) (k4 B m0 a w m hB (hfact hv hR) Q hQ)⟩
  | .block id b, A, S, t, l, h => by
    simp only [sym] at h
    split at h
    rotate_left
    · cases h
    rename_i t0 l0 hb
    simp only [Option.some.injEq, Prod.mk.injEq] at h
    obtain ⟨rfl, rfl⟩ := h
    obtain ⟨h1, h2⟩ := sym_ok hC b _ S hb
    refine ⟨h1, fun {ρ ρ' j} hlen hd => ?_⟩
    obtain ⟨e, S', more, k1, k2, k3, k4⟩ := h2 hlen hd
    refine ⟨_, S', more, by rw [List.getElem?_map, k1]; rfl, k2, k3, fun B m0 a w m hB hR Q hQ => wp_block (k4 B m0 a w m hB hR _ fun a' w' m' hR' => ?_)⟩
    have := hQ a' w' m' hR'
    cases e with
    | normal => simpa [Exit.inBlock, Ex.to] using this
    | ret => simpa [Exit.inBlock, Ex.to] using this
    | exit n =>
      by_cases hn : n = id
      · subst hn; simpa [Exit.inBlock, Ex.to] using this
      · simpa [Exit.inBlock, Ex.to, hn] using this
  | .seq x y, A, S, t, l, h => by
    simp only [sym] at h
    split at h
    · cases h
    rename_i t0 l0 ha
    have hx := sym_ok hC x _ S ha
    split at h
    · cases h
    rename_i t1 l1 hj
    have hx1 : SymOk C W0 Φ x S t1 l1 := by
      split at hj
      · cases hj; exact hx
      · exact joinLeaves_ok hC hx hj
    obtain ⟨hok, hden⟩ := onLeaves_den (Φ := Φ) h hx1.1 (fun q _ r hr => by
      obtain ⟨e, s⟩ := q
      cases e with
      | normal => exact (sym_ok hC y A s hr).1
      | ret => cases hr; rfl
      | exit _ => cases hr; rfl)
    refine ⟨hok, fun {ρ ρ' j} hlen hd => ?_⟩
    obtain ⟨j0, ρ1, g1, g2⟩ := hden hd
    obtain ⟨e, S1, more, k1, k2, k3, k4⟩ := hx1.2 hlen g1
    obtain ⟨t2, l2, j1, m1, m2, m3⟩ := g2 _ k1
    cases e with
    | normal =>
      obtain ⟨e2, S2, more2, q1, q2, q3, q4⟩ := (sym_ok hC y A S1 m1).2 k3 m2
      refine ⟨e2, S2, more ++ more2, m3 _ q1, by rw [q2, k2, List.append_assoc], q3, fun B m0 a w m hB hR Q hQ => wp_seq (k4 B m0 a w m hB hR _ fun a' w' m' hR' => ?_)⟩
      exact q4 B m0 a' w' m' hB hR' Q hQ
    | ret =>
      cases m1
      simp only [T.den, Option.some.injEq, Prod.mk.injEq] at m2
      obtain ⟨rfl, rfl⟩ := m2
      exact ⟨_, _, more, m3 _ rfl, k2, k3, fun B m0 a w m hB hR Q hQ => wp_seq (k4 B m0 a w m hB hR _ fun a' w' m' hR' => hQ a' w' m' hR')⟩
    | exit _ =>
      cases m1
      simp only [T.den, Option.some.injEq, Prod.mk.injEq] at m2
      obtain ⟨rfl, rfl⟩ := m2
      exact ⟨_, _, more, m3 _ rfl, k2, k3, fun B m0 a w m hB hR Q hQ => wp_seq (k4 B m0 a w m hB hR _ fun a' w' m' hR' => hQ a' w' m' hR')⟩
  | .loop b, A, S, t, l, h => by
    simp only [sym] at h
    exact symLoop_ok hC (fun A S t l hr => sym_ok hC b A S hr) h
  | .label _, _, _, _, _, h | .goto _, _, _, _, _, h | .scope _, _, _, _, _, h | .refuse _, _, _, _, _, h => by simp [sym] at h
  | .rangeFunc .., _, _, _, _, h => by simp [sym] at h
end
end Go.RX
namespace Go.RX

section
variable {C : Ctx} {W0 : World} {Φ : Nat → List D → Option (Nat × List D)} {B : Base} {ρ : List D} {S : SSt} {a : Act} {w : World} {m : Pl}

def resOne (tmps : Array Value) : ResultVar → Sem Value
  | .tmp t => pure (tmps.getD t undef)
  | .cell a t => do loadVar t (← asAddr (tmps.getD a undef))
theorem results_eq (fn : Func) (tmps : Array Value) : results fn tmps = (do
    let vs ← List.toArray <$> fn.results.toList.mapM (resOne tmps)
    pure (if h : vs.size = 1 then vs[0] else .tuple vs)) := by
  unfold results
  rw [Array.mapM_eq_mapM_toList]
  have e : ∀ x, resOne tmps x = (match x with
    | .tmp t => pure (tmps.getD t undef)
    | .cell a t => do loadVar t (← asAddr (tmps.getD a undef))) := fun x => by cases x <;> rfl
  rw [show resOne tmps = _ from funext e]
  rfl

theorem symLoad_addr {t : TypeId} {p : SV} {r : Out} (h : symLoad C.P S t p = some r) {av : Av} {v : Value} (hv : RepS C.P w av m ρ p v) : ∃ x, v = .pointer (some x) := by
  unfold symLoad at h
  split at h
  · cases h
  split at h
  · simp only [RepS] at hv; obtain ⟨_, _, _, _, e⟩ := hv; exact ⟨_, e⟩
  · simp only [RepS] at hv; obtain ⟨_, _, e, _⟩ := hv; exact ⟨_, e⟩
  · simp only [RepS] at hv; obtain ⟨_, _, _, e, _⟩ := hv; exact ⟨_, e⟩
  · simp only [RepS] at hv; obtain ⟨_, _, _, _, _, _, _, _, e⟩ := hv; exact ⟨_, e⟩
  · cases h

theorem resVals_ok (hM : Mod C.P B ρ S a w m) : ∀ {rs : List ResultVar} {vs : List SV}, resVals C S rs = some vs → ∃ us, (rs.mapM (resOne a.tmps)).run C.P w = .ok us w ∧ RepSs C.P w (avOf C.P m ρ B.fr S.heap) m ρ vs us
  | [], vs, h => by
    simp only [resVals, Option.some.injEq] at h; subst h
    exact ⟨[], rfl, trivial⟩
  | .tmp t :: rs, vs, h => by
    simp only [resVals] at h
    split at h
    · rename_i r hr
      cases h
      obtain ⟨us, h1, h2⟩ := resVals_ok hM hr
      refine ⟨a.tmps.getD t undef :: us, ?_, hM.env t, h2⟩
      rw [List.mapM_cons]
      simp [resOne, h1, Result.andThen]
    · cases h
  | .cell x t :: rs, vs, h => by
    simp only [resVals] at h
    split at h
    · rename_i o r ho hr
      cases h
      obtain ⟨us, h1, h2⟩ := resVals_ok hM hr
      obtain ⟨u, h3, h4, _⟩ := symLoad_ok hM (hM.env x) ho
      obtain ⟨y, hy⟩ := symLoad_addr ho (hM.env x)
      refine ⟨u :: us, ?_, h4, h2⟩
      rw [List.mapM_cons]
      have h5 : (loadVar t y).run C.P w = .ok u w := by
        rw [hy] at h3
        simpa [Instr.loadAt, Instr.sureAddr] using h3
      simp only [resOne, hy, asAddr, Sem.run_bind, Sem.run_pure, Result.andThen_ok, h5, h1]
    · cases h

theorem resultOf_ok (hM : Mod C.P B ρ S a w m) {fn : Func} {v : SV} (h : resultOf C fn S = some v) : ∃ u, (results fn a.tmps).run C.P w = .ok u w ∧ RepS C.P w (avOf C.P m ρ B.fr S.heap) m ρ v u := by
  unfold resultOf at h
  split at h
  · rename_i x hr
    cases h
    obtain ⟨us, h1, h2⟩ := resVals_ok hM hr
    cases us with
    | nil => exact h2.elim
    | cons u us => cases us with
      | cons _ _ => exact h2.2.elim
      | nil =>
        refine ⟨u, ?_, h2.1⟩
        rw [results_eq]
        simp [h1, Result.andThen]
  · rename_i l hne hr
    cases h
    obtain ⟨us, h1, h2⟩ := resVals_ok hM hr
    have hl : us.length ≠ 1 := by
      intro e
      rw [← h2.length] at e
      cases l with
      | nil => simp at e
      | cons y l => cases l with
        | nil => exact hne y rfl
        | cons _ _ => simp at e
    refine ⟨.tuple us.toArray, ?_, ?_⟩
    · rw [results_eq]
      simp [h1, Result.andThen, hl]
    · simp only [RepS]
      exact ⟨us.toArray, rfl, repSL_ofL.2 (by simpa using h2)⟩
  · cases h

theorem fitOut_spec {sg : Sig} {S : SSt} {v : SV} : ∀ {os : List SOut} {k : Nat} {t : T}, fitOut C sg S v os k = some t → ∃ i o xs M, os[i]? = some o ∧ t = .y (k + i) (.ofL xs) ∧
    matchAll C.P 0 o.nv (keepers o.heap (kpOut sg o)) [o.res] [v] o.heap S.heap S.heap.length = some (xs, M)
  | [], _, _, h => by simp [fitOut] at h
  | o :: os, k, t, h => by
    simp only [fitOut] at h
    split at h
    · rename_i xs M hm
      cases h
      exact ⟨0, o, xs, M, rfl, rfl, hm⟩
    · obtain ⟨i, o', xs, M, h1, h2, h3⟩ := fitOut_spec h
      exact ⟨i + 1, o', xs, M, by simpa using h1, by rw [h2]; congr 1; omega, h3⟩

theorem kpOut_nodup (sg : Sig) (o : SOut) : (kpOut sg o).Nodup := List.nodup_range.filter _
theorem kpAll_nodup (sg : Sig) : (kpAll sg).Nodup := List.nodup_range.filter _

/-- What is compiled keeps the contract. -/
theorem compile_ok {P : Program} {cs : List Ctr} (hcs : ∀ c ∈ cs, Con P W0 c.f c.sg (Φ c.cid)) (hmix : P.follows .mixedOrders = true) {f : FuncId} {fn : Func} (hf : P.funcs[f]? = some fn) (hcall : callOk P f = true) {sg : Sig} {t : T}
    (h : compile { P := P, cs := cs } fn sg = some t) : Con P W0 f sg (t.den Φ 0) := by
  unfold compile at h
  dsimp only at h
  split at h
  · cases h
  rename_i c hbody
  split at h
  · cases h
  rename_i t0 l0 hsym
  split at h
  rotate_left
  · cases h
  rename_i ys hys
  cases h
  let C : Ctx := { P := P, cs := cs, k := sg.heap.length, kp := kpAll sg }
  have hC : CtxOk C W0 Φ := ⟨hcs, kpAll_nodup sg, fun i hi => List.mem_range.1 (List.mem_filter.1 hi).1, hmix⟩
  have hs : SymOk C W0 Φ c (startOf fn sg) t0 l0 := sym_ok hC c _ _ hsym
  -- the way out of each leaf
  have hleaf : ∀ {ρ : List D} {j : Nat} {rs : List D}, (t0.graft fun i => (ys.map (·.1)).getD i .nil).den Φ 0 ρ = some (j, rs) → ∃ j0 ρ1, t0.den Φ 0 ρ = some (j0, ρ1) ∧
      ∀ e S', l0[j0]? = some (e, S') → (∀ n, e ≠ .exit n) ∧ ∃ v o xs M, resultOf C fn S' = some v ∧ sg.outs[j]? = some o ∧ rs = xs.map (·.den ρ1) ∧
        matchAll P 0 o.nv (keepers o.heap (kpOut sg o)) [o.res] [v] o.heap S'.heap S'.heap.length = some (xs, M) := by
    intro ρ j rs hd
    rw [graft_den' hs.1, Option.bind_eq_some_iff] at hd
    obtain ⟨⟨j0, ρ1⟩, h1, h2⟩ := hd
    refine ⟨j0, ρ1, h1, fun e S' hl => ?_⟩
    obtain ⟨⟨t1, u1⟩, h3, h4⟩ := (mapLeaves_get hys j0).1 _ hl
    simp only [List.getD_eq_getElem?_getD, List.getElem?_map, h3, Option.map_some, Option.getD_some] at h2
    have key : ∀ v, resultOf C fn S' = some v → fitOut C sg S' v sg.outs 0 = some t1 → ∃ v o xs M, resultOf C fn S' = some v ∧ sg.outs[j]? = some o ∧ rs = xs.map (·.den ρ1) ∧
        matchAll P 0 o.nv (keepers o.heap (kpOut sg o)) [o.res] [v] o.heap S'.heap S'.heap.length = some (xs, M) := by
      intro v hv hfit
      obtain ⟨i, o, xs, M, g1, g2, g3⟩ := fitOut_spec hfit
      subst g2
      simp only [T.den, xofL_den, Option.some.injEq, Prod.mk.injEq, Nat.zero_add] at h2
      obtain ⟨rfl, rfl⟩ := h2
      exact ⟨v, o, xs, M, hv, g1, rfl, g3⟩
    unfold fitLeaf at h4
    cases e with
    | exit n => simp at h4
    | normal =>
      refine ⟨fun n hn => (by cases hn), ?_⟩
      dsimp only at h4
      split at h4
      · rename_i v hv
        split at h4
        · rename_i t' ht'
          simp only [Option.some.injEq, Prod.mk.injEq] at h4
          rw [h4.1] at ht'
          exact key v hv ht'
        · cases h4
      · cases h4
    | ret =>
      refine ⟨fun n hn => (by cases hn), ?_⟩
      dsimp only at h4
      split at h4
      · rename_i v hv
        split at h4
        · rename_i t' ht'
          simp only [Option.some.injEq, Prod.mk.injEq] at h4
          rw [h4.1] at ht'
          exact key v hv ht'
        · cases h4
      · cases h4
  refine ⟨hcall, fun ρ j rs hd => ?_, fun B ρ m w args j rs out hB hlen hS hnone hpar hd hout => ?_⟩
  · obtain ⟨j0, ρ1, h1, h2⟩ := hleaf hd
    -- a leaf is there
    by_cases hx : ∃ q, l0[j0]? = some q
    · obtain ⟨⟨e, S'⟩, hq⟩ := hx
      obtain ⟨_, v, o, xs, M, g1, g2, g3, g4⟩ := h2 e S' hq
      have hM := matchAll_matched g4 (keepers_ok _ (kpOut_nodup sg o))
      exact ⟨o, g2, by rw [g3, List.length_map, hM.len]⟩
    · exfalso
      have hn : l0[j0]? = none := by
        cases hq : l0[j0]? with
        | none => rfl
        | some q => exact (hx ⟨q, hq⟩).elim
      have h3 := (mapLeaves_get hys j0).2 hn
      rw [graft_den' hs.1, h1] at hd
      simp [List.getD_eq_getElem?_getD, h3, T.den] at hd
  · obtain ⟨j0, ρ1, h1, h2⟩ := hleaf hd
    obtain ⟨e, S', more, k1, k2, k3, k4⟩ := hs.2 (show ρ.length = (startOf fn sg).nv from hlen) h1
    obtain ⟨hne, v, o, xs, M, g1, g2, g3, g4⟩ := h2 e S' k1
    rw [hout] at g2
    cases g2
    refine calls_of_wp hf hbody ?_
    have hal := hpar.length
    have hrun : Run C B ρ m (startOf fn sg) { tmps := args.toArray ++ Array.replicate (fn.ntmps - args.toArray.size) undef, defers := [] } w m := by
      refine ⟨⟨hS, fun i => ?_, ?_, rfl, fun x b hx => by cases hx⟩, hnone, fun i hi _ => rfl, Nat.le_refl _⟩
      · have := reps_getD hpar i
        show RepS P w (avOf P m ρ B.fr sg.heap) m ρ ((sg.params ++ List.replicate (fn.ntmps - sg.params.length) SV.undef).getD i .any) _
        rw [show (args.toArray ++ Array.replicate (fn.ntmps - args.toArray.size) undef).getD i undef = (args ++ List.replicate (fn.ntmps - args.length) undef).getD i undef by
          simp [Array.getD_eq_getD_getElem?, List.getD_eq_getElem?_getD, ← Array.getElem?_toList]]
        rw [List.getD_eq_getElem?_getD, List.getD_eq_getElem?_getD]
        by_cases hi : i < sg.params.length
        · rw [List.getElem?_append_left hi, List.getElem?_append_left (by omega), ← List.getD_eq_getElem?_getD, ← List.getD_eq_getElem?_getD]
          exact this
        · rw [List.getElem?_append_right (by omega), List.getElem?_append_right (by omega), hal]
          simp only [List.getElem?_replicate]
          split
          · simp [RepS]
          · simp [RepS]
      · show (sg.params ++ List.replicate (fn.ntmps - sg.params.length) SV.undef).length = _
        simp [hal]
    refine k4 B m _ w m hB hrun _ fun a' w' m' hR' => ?_
    have hfin : a'.defers = [] ∧ ∃ u, (results fn a'.tmps).run P w' = .ok u w' ∧ ∃ v' m'', Ending.returned u = .returned v' ∧ Ret P B sg out rs m m'' w' v' := by
      refine ⟨hR'.mod.defers, ?_⟩
      obtain ⟨u, u1, u2⟩ := resultOf_ok hR'.mod g1
      refine ⟨u, u1, u, ?_⟩
      have hM := matchAll_matched g4 (keepers_ok _ (kpOut_nodup sg out))
      obtain ⟨mp, q1, q2, q5, q4⟩ := hM.join hR'.mod.sim (Nat.zero_le _) (fun o h1 _ => hR'.fresh o h1)
      have hz : ρ1.take 0 ++ xs.map (·.den ρ1) = rs := by rw [g3]; rfl
      rw [hz] at q1 q2
      refine ⟨mp, rfl, q1, (q2 [u] ⟨u2, trivial⟩).1, fun i hi hk hl => ?_, fun i hd => ?_⟩
      · have hkin : i ∈ kpOut sg out := List.mem_filter.2 ⟨List.mem_range.2 hi, by
          rcases hk with h | h
          · rw [h]; rfl
          · rw [List.contains_iff_mem.2 h, Bool.or_true]⟩
        have hmem : (i, i) ∈ keepers out.heap (kpOut sg out) := List.mem_map.2 ⟨i, List.mem_filter.2 ⟨hkin, isLive_iff.2 hl⟩, rfl⟩
        have hlt : i < S'.heap.length := Nat.lt_of_lt_of_le hi hR'.k
        rw [q4 _ hmem hlt]
        refine hR'.kept i ?_ ?_
        · refine List.mem_filter.2 ⟨List.mem_range.2 hi, ?_⟩
          rcases hk with h | h
          · rw [h]; rfl
          · rw [Bool.or_eq_true]; right
            rw [List.any_eq_true]
            exact ⟨out, List.mem_of_getElem? hout, List.contains_iff_mem.2 h⟩
        · rcases (hM.objs hR'.mod.sim (Nat.zero_le _) (fun o h1 _ => hR'.fresh o h1) (FrozIn.frost S'.heap M.frz) (hM.ren _ hmem)).2 with ⟨h1, _⟩ | ⟨_, h1, _⟩
          · omega
          · exact h1
      · exact q5 i hd
    cases e with
    | exit n => exact (hne n rfl).elim
    | normal =>
      obtain ⟨d1, u, d2, v', m'', d3, d4⟩ := hfin
      exact ⟨d1, u, d2, v', m'', d3, d4⟩
    | ret =>
      obtain ⟨d1, u, d2, v', m'', d3, d4⟩ := hfin
      exact ⟨d1, u, d2, v', m'', d3, d4⟩
end
end Go.RX
