/-
  PROVED HERE: whatever reply comes in, the law WordsReplies returns true, and the reply reads as it did: the line that the program writes for a reply is the line that the document writes. Condition: the listed variables of the library hold what its text lays (the card ties them).
-/
import Derived.Test.YtbfjeejgkceedaaGreatDoorPartE
import Derived.Test.YtbfjeejgkceedaaGreatDoorCards
import Derived.Test.YtbfjeejgkceedaaGreatDoorTie
import Derived.WalkKit
import Derived.ProofKit
import Derived.OpenShut
import Derived.Deep.DeepHandedRow
import Derived.Deep.DeepWitnessRowRef
import Derived.Lib.LaidTab
import Derived.Carry
import Derived.ChangeSame
import Derived.RowKit
import Derived.Lib.LaidIn
import Derived.Stop.LaidErr
import Derived.SizedLaws
namespace Go.Proofs.YtbfjeejgkceedaaGreatDoor
open Go.RX Go.ChangeShapes Go.WideShapes Go.ChangeAt Go.RowKit

/-! What a value that reads as a reply is. -/
section
variable {P : Program} {w : World} {av : Av}
theorem rep_int {t : TypeId} {k : IntKind} {v : Value} {d : D} (hu : P.underlying t = some (.int k)) (h : Rep P w av t v d) : ∃ n, d = .int n ∧ k.min ≤ n ∧ n ≤ k.max := by
  cases h with
  | int hu' h1 h2 => rw [hu] at hu'; cases hu'; exact ⟨_, rfl, h1, h2⟩
  | bool hu' => rw [hu] at hu'; cases hu'
  | str hu' => rw [hu] at hu'; cases hu'
  | agg ha => simp [isAg, hu] at ha
  | nil hu' => rw [hu] at hu'; cases hu'
  | sl hu' => rw [hu] at hu'; cases hu'
theorem repE_mem {e : TypeId} {b off : Nat} {es : List (List D)} : RepE P w av e b off es → ∀ x ∈ es, ∃ b off, RepM P w av (cellTys P e) b off x
  | .nil, x, hx => by cases hx
  | .cons m l, x, hx => by
    rcases List.mem_cons.1 hx with rfl | hx
    · exact ⟨_, _, m⟩
    · exact repE_mem l x hx
theorem rep_sl {t e : TypeId} {v : Value} {d : D} (hu : P.underlying t = some (.slice e)) (h : Rep P w av t v d) : ∃ es, d = .sl es ∧ ∀ x ∈ es, ∃ b off, RepM P w av (cellTys P e) b off x := by
  cases h with
  | int hu' h1 h2 => rw [hu] at hu'; cases hu'
  | bool hu' => rw [hu] at hu'; cases hu'
  | str hu' => rw [hu] at hu'; cases hu'
  | agg ha => simp [isAg, hu] at ha
  | nil hu' => exact ⟨[], rfl, fun x hx => by cases hx⟩
  | sl hu' _ _ hE => rw [hu] at hu'; cases hu'; exact ⟨_, rfl, repE_mem hE⟩
end
theorem lift_list {α β : Type} (f : α → β) (p : α → Prop) : ∀ (es : List β), (∀ x ∈ es, ∃ y, x = f y ∧ p y) → ∃ l : List α, es = l.map f ∧ ∀ y ∈ l, p y
  | [], _ => ⟨[], rfl, fun y hy => by cases hy⟩
  | x :: es, h => by
    obtain ⟨y, rfl, hy⟩ := h x (List.mem_cons_self ..)
    obtain ⟨l, rfl, hl⟩ := lift_list f p es (fun z hz => h z (List.mem_cons_of_mem _ hz))
    refine ⟨y :: l, rfl, fun z hz => ?_⟩
    rcases List.mem_cons.1 hz with rfl | hz
    · exact hy
    · exact hl z hz
theorem uw2 : Tryz.prog.underlying 2 = some (.int .i64) := by kernel_rfl
theorem uw3 : Tryz.prog.underlying 3 = some (.int .i64) := by kernel_rfl
theorem uw29 : Tryz.prog.underlying 29 = some (.int .i64) := by kernel_rfl
theorem uw24 : Tryz.prog.underlying 24 = some (.slice 2) := by kernel_rfl
theorem uw45 : Tryz.prog.underlying 45 = some (.slice 92) := by kernel_rfl
theorem uw46 : Tryz.prog.underlying 46 = some (.slice 51) := by kernel_rfl
theorem uw49 : Tryz.prog.underlying 49 = some (.slice 95) := by kernel_rfl
theorem ct2 : cellTys Tryz.prog 2 = [2] := by kernel_rfl
theorem ct92 : cellTys Tryz.prog 92 = [3, 3, 3, 3, 2] := by kernel_rfl
theorem ct51 : cellTys Tryz.prog 51 = [3, 3, 2, 49] := by kernel_rfl
theorem ct95 : cellTys Tryz.prog 95 = [3, 3, 2] := by kernel_rfl
theorem ct48 : cellTys Tryz.prog 48 = [29, 24, 45, 46] := by kernel_rfl
section
variable {w : World} {av : Av}
theorem i64_of {n : Int} (h1 : IntKind.i64.min ≤ n) (h2 : n ≤ IntKind.i64.max) : I64 n := by
  simp [IntKind.min, IntKind.max, IntKind.signed, IntKind.bits] at h1 h2
  exact ⟨h1, by omega⟩
theorem repi2 {v : Value} {d : D} (h : Rep Tryz.prog w av 2 v d) : ∃ n, d = .int n ∧ I64 n := by
  obtain ⟨n, rfl, h1, h2⟩ := rep_int uw2 h; exact ⟨n, rfl, i64_of h1 h2⟩
theorem repi3 {v : Value} {d : D} (h : Rep Tryz.prog w av 3 v d) : ∃ n, d = .int n ∧ I64 n := by
  obtain ⟨n, rfl, h1, h2⟩ := rep_int uw3 h; exact ⟨n, rfl, i64_of h1 h2⟩
theorem is_num {b off : Nat} {x : List D} (h : RepM Tryz.prog w av (cellTys Tryz.prog 2) b off x) : ∃ y : Int, x = [.int y] ∧ I64 y := by
  rw [ct2] at h
  obtain _ | ⟨_, _, r0, r1⟩ := h
  cases r1
  obtain ⟨n, rfl, hn⟩ := repi2 r0
  exact ⟨n, rfl, hn⟩
theorem is_lot {b off : Nat} {x : List D} (h : RepM Tryz.prog w av (cellTys Tryz.prog 95) b off x) : ∃ y : Lt, x = y.toD ∧ y.In := by
  rw [ct95] at h
  obtain _ | ⟨_, _, r0, r1⟩ := h
  obtain _ | ⟨_, _, r1, r2⟩ := r1
  obtain _ | ⟨_, _, r2, r3⟩ := r2
  cases r3
  obtain ⟨a, rfl, ha⟩ := repi3 r0
  obtain ⟨t, rfl, ht⟩ := repi3 r1
  obtain ⟨q, rfl, hq⟩ := repi2 r2
  exact ⟨⟨a, t, q⟩, rfl, ⟨ha, ht, hq⟩⟩
theorem is_deb {b off : Nat} {x : List D} (h : RepM Tryz.prog w av (cellTys Tryz.prog 92) b off x) : ∃ y : Deb, x = y.toD ∧ y.In := by
  rw [ct92] at h
  obtain _ | ⟨_, _, r0, r1⟩ := h
  obtain _ | ⟨_, _, r1, r2⟩ := r1
  obtain _ | ⟨_, _, r2, r3⟩ := r2
  obtain _ | ⟨_, _, r3, r4⟩ := r3
  obtain _ | ⟨_, _, r4, r5⟩ := r4
  cases r5
  obtain ⟨a, rfl, ha⟩ := repi3 r0
  obtain ⟨b, rfl, hb⟩ := repi3 r1
  obtain ⟨c, rfl, hc⟩ := repi3 r2
  obtain ⟨d, rfl, hd⟩ := repi3 r3
  obtain ⟨n, rfl, hn⟩ := repi2 r4
  exact ⟨⟨a, b, c, d, n⟩, rfl, ⟨ha, hb, hc, hd, hn⟩⟩
theorem is_rtn {b off : Nat} {x : List D} (h : RepM Tryz.prog w av (cellTys Tryz.prog 51) b off x) : ∃ y : Rtn, x = y.toD ∧ y.In := by
  rw [ct51] at h
  obtain _ | ⟨_, _, r0, r1⟩ := h
  obtain _ | ⟨_, _, r1, r2⟩ := r1
  obtain _ | ⟨_, _, r2, r3⟩ := r2
  obtain _ | ⟨_, _, r3, r4⟩ := r3
  cases r4
  obtain ⟨a, rfl, ha⟩ := repi3 r0
  obtain ⟨b, rfl, hb⟩ := repi3 r1
  obtain ⟨c, rfl, hc⟩ := repi2 r2
  obtain ⟨es, rfl, he⟩ := rep_sl uw49 r3
  obtain ⟨l, rfl, hl⟩ := lift_list Lt.toD Lt.In es (fun x hx => by obtain ⟨_, _, h⟩ := he x hx; exact is_lot h)
  exact ⟨⟨a, b, c, l⟩, rfl, ⟨ha, hb, hc, hl⟩⟩
theorem is_reply {vs : List Value} {ds : List D} (h : RepL Tryz.prog w av (cellTys Tryz.prog 48) vs ds) : ∃ x : Rep0, D.agg ds = x.toD ∧ x.In := by
  rw [ct48] at h
  obtain _ | ⟨r0, r1⟩ := h
  obtain _ | ⟨r1, r2⟩ := r1
  obtain _ | ⟨r2, r3⟩ := r2
  obtain _ | ⟨r3, r4⟩ := r3
  cases r4
  obtain ⟨e, rfl, he0, he1⟩ := rep_int uw29 r0
  obtain ⟨ns, rfl, hn⟩ := rep_sl uw24 r1
  obtain ⟨ds, rfl, hd⟩ := rep_sl uw45 r2
  obtain ⟨rs, rfl, hr⟩ := rep_sl uw46 r3
  obtain ⟨n, rfl, hn'⟩ := lift_list (fun n : Int => [D.int n]) I64 ns (fun x hx => by obtain ⟨_, _, h⟩ := hn x hx; exact is_num h)
  obtain ⟨d, rfl, hd'⟩ := lift_list Deb.toD Deb.In ds (fun x hx => by obtain ⟨_, _, h⟩ := hd x hx; exact is_deb h)
  obtain ⟨r, rfl, hr'⟩ := lift_list Rtn.toD Rtn.In rs (fun x hx => by obtain ⟨_, _, h⟩ := hr x hx; exact is_rtn h)
  exact ⟨⟨e, n, d, r⟩, rfl, ⟨i64_of he0 he1, hn', hd', hr'⟩⟩
end

/-! What the library's variables hold. -/
theorem laid_get {P : Program} {w : World} : ∀ {l : List (String × DataW Unit)} {ps : List MemPlace}, DataW.LaidVars P w l ps → ∀ {n : String} {d : DataW Unit}, (n, d) ∈ l →
    ∃ g t cs fuel p, P.globalNamed n = some g ∧ (P.globals[g]?).map (·.type) = some t ∧ w.var? P n = some cs ∧ DataW.trod (fun _ => ()) P w 0 (fun _ => true) false fuel t cs.toList = some (d, p)
  | [], _, _, n, d, h => by cases h
  | (n0, d0) :: r, _, ⟨g, t, cs, fuel, p, q, h1, h2, h3, h4, h5, _⟩, n, d, h => by
    rcases List.mem_cons.1 h with e | h
    · cases e; exact ⟨g, t, cs, fuel, p, h1, h2, h3, h4⟩
    · exact laid_get h5 h
theorem iface_of {H : Type} {enc : TypeId × Value → H} {P : Program} {w : World} {sp : Nat → Bool} {fuel : Nat} {t : TypeId} {ms : Array (String × TypeId)} {cs : List Value} {nm : String} {x : DataW H} {p : List MemPlace}
    (ht : P.underlying t = some (.interface ms)) (h : DataW.trod enc P w 0 sp false fuel t cs = some (.iface nm x, p)) : ∃ tp v, cs = [.iface tp v] := by
  cases fuel with
  | zero => simp [DataW.trod] at h
  | succ n =>
    unfold DataW.trod at h
    rw [ht] at h
    split at h <;> simp_all
theorem g0 : Tryz.prog.globalNamed "internal/strconv.uint64pow10" = some 0 := by kernel_rfl
theorem g4 : Tryz.prog.globalNamed "strconv.ErrSyntax" = some 4 := by kernel_rfl
theorem g5 : Tryz.prog.globalNamed "strconv.ErrRange" = some 5 := by kernel_rfl
theorem gt0 : (Tryz.prog.globals[0]?).map (·.type) = some 191 := by kernel_rfl
theorem gt4 : (Tryz.prog.globals[4]?).map (·.type) = some 150 := by kernel_rfl
theorem gt5 : (Tryz.prog.globals[5]?).map (·.type) = some 150 := by kernel_rfl
theorem u150 : Tryz.prog.underlying 150 = some (.interface #[("Error", 74)]) := by kernel_rfl
theorem err_of {W : World} {n : String} {g : Nat} {nm : String} {x : DataW Unit} (hg : Tryz.prog.globalNamed n = some g) (ht : (Tryz.prog.globals[g]?).map (·.type) = some 150)
    {l : List (String × DataW Unit)} {ps : List MemPlace} (h : DataW.LaidVars Tryz.prog W l ps) (hm : (n, DataW.iface nm x) ∈ l) : ∃ tp p, W.var? Tryz.prog n = some #[.iface tp p] := by
  obtain ⟨g', t, cs, fuel, p, h1, h2, h3, h4⟩ := laid_get h hm
  obtain rfl := Option.some.inj (hg.symm.trans h1)
  obtain rfl := Option.some.inj (ht.symm.trans h2)
  obtain ⟨tp, v, hc⟩ := iface_of u150 h4
  refine ⟨tp, v, ?_⟩
  rw [h3, show cs = #[.iface tp v] from Array.toList_inj.1 hc]
theorem u191 : Tryz.prog.underlying 191 = some (.array 20 121) := by kernel_rfl
theorem u121 : Tryz.prog.underlying 121 = some (.int .u64) := by kernel_rfl
theorem c121 : Tryz.prog.cellsOf 121 = 1 := by kernel_rfl
theorem c191 : Tryz.prog.cellsOf 191 = 20 := by kernel_rfl
theorem pow_of {W : World} {l : List (String × DataW Unit)} {ps : List MemPlace} (h : DataW.LaidVars Tryz.prog W l ps) (hm : ("internal/strconv.uint64pow10", Rows.laid_internal_strconv_uint64pow10) ∈ l) :
    Lib.TabIs Tryz.prog W "internal/strconv.uint64pow10" .u64 Lib.pow10Tab := by
  obtain ⟨g', t, cs, fuel, p, h1, h2, h3, h4⟩ := laid_get h hm
  obtain rfl := Option.some.inj (g0.symm.trans h1)
  obtain rfl := Option.some.inj (gt0.symm.trans h2)
  have hd : (Rows.laid_internal_strconv_uint64pow10 : DataW Unit) = Lib.tabData .u64 Lib.pow10Tab := rfl
  rw [hd] at h4
  unfold Lib.TabIs
  rw [h3, ← Lib.cells_of_tab (n := 20) (e := 121) u191 u121 c121 c191 h4]
theorem max_of {W : World} (h : W.ShapedOpen Tryz.prog) : ∃ m, W.cell? ⟨1, 0, none⟩ = some (.int .i64 m) :=
  Go.Proofs.cell_of_shapedOpen_int (zero := #[.int .i64 0]) (t := 3) h (of_decide_eq_true (by kernel_rfl)) (by kernel_rfl) rfl (by kernel_rfl) (by kernel_rfl) uw3
theorem lib_of {W : World} {laid : List (String × DataW Unit)} (hL : laidMet Tryz.prog laid W) (h0 : ("internal/strconv.uint64pow10", Rows.laid_internal_strconv_uint64pow10) ∈ laid)
    (h4 : ("strconv.ErrSyntax", Rows.laid_strconv_ErrSyntax) ∈ laid) (h5 : ("strconv.ErrRange", Rows.laid_strconv_ErrRange) ∈ laid) (hS : W.ShapedOpen Tryz.prog) : LibOk W := by
  obtain ⟨ps, hv, _⟩ := hL
  exact ⟨pow_of hv h0, err_of g4 gt4 hv h4, err_of g5 gt5 hv h5, max_of hS⟩
end Go.Proofs.YtbfjeejgkceedaaGreatDoor
namespace Go.RX
open Go.ChangeShapes Go.RowKit

/-! From a contract to a row. -/
section
variable {P : Program} {W : World}

theorem rep_pars {w : World} {av : Av} {m : Pl} {ρ : List D} : ∀ (ts : List TypeId) (i : Nat) {vs : List Value} {ds : List D}, ρ.drop i = ds → RepL P w av ts vs ds → RepSs P w av m ρ (pars i ts) vs
  | [], i, _, _, _, .nil => trivial
  | t :: ts, i, _ :: _, d :: ds, hd, .cons r l => by
    have h0 : ρ.getD i default = d := by
      rw [List.getD_eq_getElem?_getD]
      have : (ρ.drop i)[0]? = some d := by rw [hd]; rfl
      rw [List.getElem?_drop] at this
      simp at this
      simp [this]
    refine ⟨?_, rep_pars ts (i + 1) (ds := ds) ?_ l⟩
    · rw [RepS, X.den, h0]; exact r
    · rw [← List.drop_drop, hd]; rfl

theorem Con.row {f : FuncId} {sg : Sig} {F : List D → Option (Nat × List D)} {ts : List TypeId} {t : TypeId} (hC : Con P W f sg F) (hp : sg.params = pars 0 ts) (hn : sg.nv = ts.length) (hh : sg.heap = [])
    (ho : sg.outs[0]? = some { nv := 1, res := .x (.var 0) t, heap := [], stay := [] }) {vs : List Value} {ds : List D} {d : D} (hl : RepL P W (fun _ _ => False) ts vs ds) (hF : F ds = some (0, [d])) :
    Calls P f vs.toArray W fun e w' => ∃ v, e = .returned v ∧ (∃ av, Rep P w' av t v d) ∧ Below W.heap.size W w' := by
  have hav : ∀ ρ, KeepsAv (fun _ _ => False) W W (avOf P (fun _ => none) ρ (fun _ _ => False) []) := by
    intro ρ b o v h _
    refine ⟨h, ?_⟩
    rintro (h | ⟨o, p, h, _⟩)
    · exact h
    · cases h
  have hS : Sim P { w0 := W, ow := fun _ => False, av0 := fun _ _ => False, fr := fun _ _ => False } ds sg.heap (fun _ => none) W := by
    rw [hh]
    exact ⟨fun o => (by rw [hget_nil]; trivial), fun o o' p p' b h => (by rw [hget_nil] at h; exact absurd rfl h), fun o p b h => (by rw [hget_nil] at h; exact h.elim), ⟨rfl, rfl, rfl, Nat.le_refl _, fun _ _ _ => rfl⟩, hav ds, fun o p b off h => (by rw [hget_nil] at h; exact h.elim), fun b off h => h.elim⟩
  have hpar : RepSs P W (avOf P (fun _ => none) ds (fun _ _ => False) sg.heap) (fun _ => none) ds sg.params vs := by
    rw [hp, hh]
    exact rep_pars ts 0 rfl (hl.keeps (hav ds))
  refine (hC.calls _ ds (fun _ => none) W vs 0 [d] _ ⟨Nat.le_refl _, fun _ _ => rfl, fun _ _ h => h⟩ (by rw [hn]; exact hl.length_ds) hS (fun _ _ => rfl) hpar hF ho).mono ?_
  rintro e w' ⟨v, m', rfl, hR⟩
  refine ⟨v, rfl, ⟨_, hR.val⟩, ?_⟩
  have hx := hR.sim.ext
  exact ⟨hx.os, hx.tape, hx.output, hx.size, fun k hk => hx.block k hk (fun h => h)⟩
end

section
variable {H : Type} {enc : TypeId × Value → H} {P : Program}
theorem trodAll_stays (hl : laidOutB P = true) {W W' : World} (hb : Below W.heap.size W W') {sp : Nat → Bool} : ∀ {ts : List TypeId} {vs : List Value} {ds : List (DataW H)} {ps : List MemPlace},
    (∀ t ∈ ts, P.readableRec t = true ∧ t < P.types.size) → DataW.TrodAll enc P W 0 (fun _ => true) true ts vs ds ps → (∀ p ∈ ps, p.block < W.heap.size) → (∀ p ∈ ps, sp p.block = true) → DataW.TrodAll enc P W' 0 sp true ts vs ds ps
  | [], [], [], _, _, h, _, _ => h
  | _ :: _, _ :: _, _ :: _, _, hT, ⟨p, q, h1, h2, e⟩, hlt, hs =>
    ⟨p, q, WideElems.Trod_stays hl (hT _ (List.mem_cons_self ..)).1 (hT _ (List.mem_cons_self ..)).2 h1 (fun x hx => hb.same (hlt x (by rw [e]; exact List.mem_append_left _ hx))) (fun x hx => hs x (by rw [e]; exact List.mem_append_left _ hx)),
      trodAll_stays hl hb (fun t ht => hT t (List.mem_cons_of_mem _ ht)) h2 (fun x hx => hlt x (by rw [e]; exact List.mem_append_right _ hx)) (fun x hx => hs x (by rw [e]; exact List.mem_append_right _ hx)), e⟩

/-- A row's end: true came out, the arguments read as they did. -/
theorem post_true {f : Func} {s : ChangeSpec} {apart fresh handsOn again : Bool} {W W' : World} {args : Array Value} {ds gs : List (DataW H)} {before : List MemPlace} {t : TypeId}
    (hl : laidOutB P = true) (hr : ∀ t ∈ f.params.toList, P.readableRec t = true ∧ t < P.types.size)
    (hW : DataW.Whole enc P f.params.toList s.vars apart W args.toList ds gs before) (hv : s.vars = []) (hres : f.resultTypes = #[t]) (ht : P.underlying t = some .bool)
    (hs : s.fn H ds = { results := [.lit (.bool true)], args := ds }) (hb : Below W.heap.size W W') : s.post enc P f apart fresh handsOn again W args (.bool true) W' := by
  have hlt : ∀ p ∈ before, p.block < W.heap.size := fun p hp => by simpa using hW.lt p hp
  have hW0 := hW
  obtain ⟨p, q, hA, hV, he, hz, hn⟩ := hW
  rw [hv] at hV
  obtain ⟨rfl, rfl⟩ := trodVars_none hV
  rw [List.append_nil] at he
  subst he
  have hr1 : ∀ (b : Nat) (sp : Nat → Bool) (hd : Bool), DataW.TrodAll enc P W' b sp hd f.resultTypes.toList ((Value.bool true).resultList f.resultTypes.size) (s.fn H (ds ++ [])).results [] := by
    intro b sp hd
    rw [List.append_nil, hs, hres]
    exact ⟨[], [], ⟨1, by simp [DataW.trod, ht, Value.cells]⟩, rfl, rfl⟩
  have hargs : ∀ sp : Nat → Bool, (∀ p ∈ before, sp p.block = true) → DataW.TrodAll enc P W' 0 sp true f.params.toList args.toList (s.fn H (ds ++ [])).args before := by
    intro sp hsp
    rw [List.append_nil, hs]
    exact trodAll_stays hl hb hr hA hlt hsp
  have hvars : ∀ sp : Nat → Bool, DataW.TrodVars enc P W' sp s.vars (s.fn H (ds ++ [])).vars [] := by
    intro sp
    rw [List.append_nil, hs, hv]; rfl
  refine ⟨ds, [], before, [], before, [], hW0, hr1 _ _ _, hargs _ (fun p hp => by simpa using hlt p hp), hvars _, hb.frame _, fun _ => ?_⟩
  refine ⟨?_, _, _, ([] ++ before) ++ [], ⟨[] ++ before, [], trodAll_append (hargs _ (fun _ _ => rfl)) (hr1 _ _ _), hvars _, rfl, ?_, ?_⟩, ?_⟩
  · intro j u r hj hr
    rw [hres] at hj hr
    match j, hj, hr with
    | 0, hj, hr =>
      simp [Value.resultList] at hj hr
      subst hj; subst hr
      simp [Value.okWide, ht, Cell.okWide, Cell.ok]
  · intro b off hp
    have hp' : MemPlace.cell b off ∈ before := by simpa using hp
    have hf : W'.frozen? ⟨b, off, none⟩ = W.frozen? ⟨b, off, none⟩ := by
      unfold World.frozen?
      rw [hb.block b (hlt _ hp')]
    rw [hf]
    exact hz b off hp'
  · intro ha
    simpa using hn ha
  · intro p hp _
    simpa using hp
end
end Go.RX
namespace Go.Proofs.YtbfjeejgkceedaaGreatDoor
open Go.RX Go.ChangeShapes Go.WideShapes Go.ChangeAt Go.RowKit Go.Lib

theorem own : ownKnob Tryz.prog.godebug = none := by kernel_rfl
theorem laidOut : laidOutB Tryz.prog = true := by kernel_rfl
theorem fn4 : Tryz.prog.funcs[4]? = some Tryz.f4 := Tryz.func4
theorem par4 : Tryz.f4.params = #[48] := by kernel_rfl
theorem res4 : Tryz.f4.resultTypes = #[4] := by kernel_rfl
theorem u48 : ∃ fs, Tryz.prog.underlying 48 = some (.struct fs) := by
  have h : (match Tryz.prog.underlying 48 with | some (.struct _) => true | _ => false) = true := by kernel_rfl
  revert h
  cases Tryz.prog.underlying 48 with
  | none => intro h; cases h
  | some d => cases d with
    | struct fs => intro _; exact ⟨fs, rfl⟩
    | _ => intro h; cases h
theorem ag48 : isAg Tryz.prog 48 = true := by kernel_rfl
theorem dty48 : dty Tryz.prog 12 48 = true := by kernel_rfl


set_option maxRecDepth 100000 in
theorem contract {H : Type} (enc : TypeId × Value → H) (W : World) (base : Nat) (args : Array Value) (ds gs : List (DataW H)) (before : List MemPlace)
    (hval : ∀ (j : Nat) t v, Tryz.f4.params[j]? = some t → args[j]? = some v → Value.okWide Tryz.prog W .any base t v)
    (hW : DataW.Whole enc Tryz.prog Tryz.f4.params.toList Rows.wordsRepliesSpec.vars false W args.toList ds gs before)
    (hz : (DataW.weightsEach Tryz.prog Tryz.f4.params.toList ds).all (· ≤ reachBytes) = true) (hL : LibOk W) :
    Calls Tryz.prog 4 args W fun e W' => ∃ v, e = .returned v ∧ Rows.wordsRepliesSpec.post enc Tryz.prog Tryz.f4 false true false false W args v W' := by
  have hW' := hW
  obtain ⟨p, q, hA, hV, rfl, hfz, hnd⟩ := hW
  rw [par4] at hA hval hz
  obtain ⟨v0, vs0, d0, ds0, p0, q0, hargs, rfl, rfl, ⟨fuel, h0⟩, r0⟩ := trodAll_cons hA
  obtain ⟨rfl, rfl, rfl⟩ := trodAll_nil r0
  obtain rfl : args = #[v0] := by cases args; simp_all
  obtain ⟨fs, hu⟩ := u48
  have hv0 : Value.okWide Tryz.prog W .any base 48 v0 := by
    refine hval 0 48 v0 ?_ ?_
    · rfl
    · rfl
  unfold Value.okWide at hv0
  rw [hu] at hv0
  obtain ⟨cs, rfl, _, _⟩ := hv0
  have hz' : ∀ k ∈ d0.weights Tryz.prog 48, k ≤ reachBytes := fun k hk =>
    of_decide_eq_true (List.all_eq_true.1 hz k (weightsEach_mem (ts := [48]) (ds := [d0]) (i := 0) rfl rfl hk))
  obtain ⟨ds, hds⟩ := repL_of_trod (w := W) 12 48 fuel cs.toList (d0, p0) dty48 h0 hz'
  obtain ⟨x, hx, hin⟩ := is_reply hds
  have hrep : RepL Tryz.prog W (fun _ _ => False) [48] [.agg cs] [x.toD] := by
    refine .cons ?_ .nil
    rw [← hx]
    exact .agg ag48 hds
  refine ((con68 hL).row (ts := [48]) (t := 4) rfl rfl rfl rfl hrep (law_ok x hin)).mono ?_
  rintro e W' ⟨v, rfl, ⟨av, hv⟩, hb⟩
  refine ⟨v, rfl, ?_⟩
  obtain rfl : v = .bool true := by cases hv; rfl
  exact post_true laidOut (fun t ht => by
    rw [par4] at ht
    obtain rfl : t = 48 := by simpa using ht
    exact ⟨by kernel_rfl, of_decide_eq_true (by kernel_rfl)⟩) hW' rfl res4 u4 rfl hb

end Go.Proofs.YtbfjeejgkceedaaGreatDoor
namespace Go.Proofs.YtbfjeejgkceedaaGreatDoor
open Go.RX Go.ChangeShapes Go.WideShapes Go.ChangeAt Go.RowKit Go.Lib

/-- A WORLD FOR THE WITNESS: the library's variables as their initialisers lay them. -/
noncomputable def laidWorld (os : Os) : World :=
  let N := (World.settled Tryz.prog os).heap.size
  let w0 := World.holding Tryz.prog os ⟨#[.cells #[.string ⟨#[105, 110, 118, 97, 108, 105, 100, 32, 115, 121, 110, 116, 97, 120]⟩] 221, .cells #[.string ⟨#[118, 97, 108, 117, 101, 32, 111, 117, 116, 32, 111, 102, 32, 114, 97, 110, 103, 101]⟩] 221], #[], []⟩
  let put (h : Array Obj) (g : Nat) (cs : Array Value) : Array Obj := h.modify g fun
    | .cells _ t frozen => .cells cs t frozen
    | o => o
  let ints (d : DataW Unit) : List Value := match d with
    | .agg ps => ps.map fun | .lit (.int k n) => .int k n | _ => default
    | _ => []
  let h0 := put (put w0.heap 4 #[.iface 219 (.pointer (some ⟨N, 0, none⟩))]) 5 #[.iface 219 (.pointer (some ⟨N + 1, 0, none⟩))]
  let h1 := put h0 2 (ints Rows.laid_unicode_utf8_first).toArray
  let h2 := put h1 3 ((match (Rows.laid_unicode_utf8_acceptRanges : DataW Unit) with | .agg ps => ps | _ => []).flatMap ints).toArray
  let h3 := put h2 0 (ints Rows.laid_internal_strconv_uint64pow10).toArray
  let h4 := put h3 6 (ints Rows.laid_math_bits_deBruijn32tab).toArray
  let h5 := put h4 7 (ints Rows.laid_math_bits_deBruijn64tab).toArray
  { w0 with heap := h5 }
noncomputable abbrev N0 : Nat := (World.settled Tryz.prog default).heap.size
set_option maxRecDepth 1000000 in
theorem laid_met (os : Os) (args : Array Value) : laidMet Tryz.prog Rows.wordsRepliesRow.laid ((laidWorld os).forCall (fun _ _ => 0) ⟨#[], args, []⟩).memory :=
  (LaidIn.of_run [6, 7, 0, 3, 5, N0 + 1, 4, N0, 2] 8 (by kernel_rfl) (by kernel_rfl) (by kernel_rfl) (by kernel_rfl)).met

noncomputable def zeroReply : Value := .agg #[.int .i64 0, .slice none 0 0, .slice none 0 0, .slice none 0 0]
theorem witness_row (os : Os) {H : Type} (enc : TypeId × Value → H) :
    (OpenSpec.ofChange Rows.wordsRepliesSpec).preRow enc Tryz.prog Tryz.f4 Rows.wordsRepliesRow.domain false Rows.wordsRepliesRow.laid ((laidWorld os).forCall (fun _ _ => 0) ⟨#[], #[zeroReply], []⟩).memory #[zeroReply] := by
  have hw : (DataW.whole enc Tryz.prog ((laidWorld os).forCall (fun _ _ => 0) ⟨#[], #[zeroReply], []⟩).memory Tryz.f4.params.toList Rows.wordsRepliesSpec.vars false #[zeroReply].toList 8).map (fun x => (x.1, x.2.1)) =
      some ([.agg [.lit (.int .i64 0), .nil, .nil, .nil]], []) := by kernel_rfl
  obtain ⟨⟨x1, x2, x3⟩, hx, hx1⟩ := Option.map_eq_some_iff.1 hw
  simp only [Prod.mk.injEq] at hx1
  obtain ⟨rfl, rfl⟩ := hx1
  exact OpenSpec.preRow_of_cond 8 hx (by kernel_rfl) (fun k hk => by cases hk) (by kernel_rfl) (laid_met os _)

set_option maxRecDepth 100000 in
theorem lifted (os : Os) (started : os.Started) (H : Type) (enc : TypeId × Value → H) (F : Stop.Interp) :
    ReturnsInHanded {} Tryz.checked os 4 .any ((OpenSpec.ofChange Rows.wordsRepliesSpec).preRow enc Tryz.prog Tryz.f4 Rows.wordsRepliesRow.domain false Rows.wordsRepliesRow.laid) (((OpenSpec.ofChange Rows.wordsRepliesSpec).at F).post enc Tryz.prog Tryz.f4 false true false false) := by
  refine returnsInHanded_of_row (C := Tryz.checked) (s := OpenSpec.ofChange Rows.wordsRepliesSpec) own started (by kernel_rfl) Tryz.func4
    (witness_row_atRef (enc := enc) (C := Tryz.checked) false (laidWorld os) #[zeroReply] rfl (by kernel_rfl) (by kernel_rfl) (by kernel_rfl) (witness_row os enc)) ?_
  intro W base args ds gs before hval hW _ _ hz hL hS _
  have hg : gs = [] := by
    obtain ⟨p, q, _, hV, _⟩ := hW
    exact (trodVars_none hV).1
  subst hg
  refine contract enc W base args ds [] before hval hW ?_ (lib_of hL (.tail _ (.tail _ (.head _))) (.tail _ (.tail _ (.tail _ (.tail _ (.tail _ (.head _)))))) (.tail _ (.tail _ (.tail _ (.tail _ (.head _))))) hS)
  have h1 : Tryz.f4.params.toList ++ (OpenSpec.ofChange Rows.wordsRepliesSpec).bare.plain.varTypes Tryz.prog = Tryz.f4.params.toList := List.append_nil _
  have h2 := hz
  rw [List.append_nil] at h2
  exact h2

theorem said : Rows.WordsRepliesSaid :=
  OpenClaim.holds_of_cond 4 Tryz.f4 rfl rfl rfl rfl rfl rfl rfl ⟨rfl, rfl, rfl, rfl, rfl⟩ rfl rfl rfl rfl rfl (by kernel_rfl) Tryz.func4 (by kernel_rfl)
    (of_decide_eq_true (by kernel_rfl)) (by unfold Func.isWrapper; first | (rw [if_pos (by decide +kernel)]; kernel_rfl) | (rw [if_neg (by decide +kernel)]; exact ⟨rfl, rfl⟩))
    (fun os started H enc _ F => by rw [OpenClaim.pre_eq_preRow]; exact lifted os started H enc F)

theorem plain (f : FuncId) (fn : Func) (hf : Tryz.pinned.checked.prog.funcNamed "novation/novationlaw40.WordsReplies" = some f) (hfn : Tryz.pinned.checked.prog.funcs[f]? = some fn) :
    true = Tryz.pinned.checked.prog.looks [] ∧ ∀ (j : Nat) t, fn.params[j]? = some t → Tryz.pinned.checked.prog.wantsStandIn t = false := by
  obtain rfl : f = 4 := Option.some.inj ((show Tryz.prog.funcNamed "novation/novationlaw40.WordsReplies" = some 4 by kernel_rfl).symm.trans hf) |>.symm
  obtain rfl : fn = Tryz.f4 := (Option.some.inj (Tryz.func4.symm.trans hfn)).symm
  refine ⟨by kernel_rfl, fun j t ht => ?_⟩
  rw [par4] at ht
  obtain rfl : t = 48 := by simpa using Array.mem_of_getElem? ht
  exact (show Tryz.prog.wantsStandIn 48 = false by kernel_rfl)

/-- ████ THE CARD ████ -/
theorem wordsRepliesCard_holds : Rows.WordsRepliesCardSaid :=
  Claim7.holds_tied_plain_at .later [] _ _ _ _ said (fun _ h => by cases h) (by kernel_rfl) (fun _ h => by cases h) wordsReplies_row_tie rfl ⟨rfl, rfl⟩ (by kernel_rfl) rfl plain (by kernel_rfl)
#print axioms wordsRepliesCard_holds
end Go.Proofs.YtbfjeejgkceedaaGreatDoor
