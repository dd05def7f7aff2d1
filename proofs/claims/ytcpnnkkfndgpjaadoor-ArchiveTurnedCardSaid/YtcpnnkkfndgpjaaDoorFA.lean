/- Feed's deferred closure; New, Done, Held. -/
import Derived.Test.YtcpnnkkfndgpjaaDoorRE
import Derived.Defers
import Derived.Recover
import Derived.Laws.Pointers
namespace Go.Proofs.YtcpnnkkfndgpjaaDoor
open Go.RowKit

section
variable {P : Program} {ops : Array Oper} {Q : Exit → Act → World → Prop} {S : World → Prop} {L : Nat}
theorem lin_anyD (hs : Region.noSelect ops = true) (hQ : ∀ (i : Nat) (o : Oper), ops[i]? = some o → ∀ c a v w, Q (.panic c) (Act.put a o.dst v) w → Q (.panic c) a w) :
    ∀ (plan : List (Nat × Nat)) (l : List (Oper × Nat)) (listed : Array Bool) (fuel : Nat) (a : Act) (w : World), planOk ops L plan listed = true → planOps ops plan = some l → plan.length ≤ fuel → Closed ops listed →
      (listed.getD L false = false → S w) → wpLin P ops Q S l a w → wpAnyE P ops Q S L fuel listed a w := by
  intro plan
  induction plan with
  | nil =>
    intro l listed fuel a w hp hl _ _ _ h
    simp [planOps] at hl
    subst hl
    have hr : Region.ready .any ops listed = [] := by simpa [planOk] using hp
    cases fuel with
    | zero => exact ⟨hr, h⟩
    | succ fuel => exact ⟨fun _ => h, by rw [hr]; simp⟩
  | cons x plan ih =>
    intro l listed fuel a w hp hl hf hcl hS h
    obtain ⟨i, b⟩ := x
    simp only [planOps, List.mapM_cons, Option.bind_eq_bind, Option.bind_eq_some_iff, Option.map_eq_some_iff, Option.pure_def, Option.some.injEq] at hl
    obtain ⟨⟨o, b'⟩, ⟨o', ho, heq⟩, l', hl', rfl⟩ := hl
    simp only [Prod.mk.injEq] at heq
    obtain ⟨rfl, rfl⟩ := heq
    obtain ⟨fuel, rfl⟩ : ∃ f, fuel = f + 1 := ⟨fuel - 1, by simp at hf; omega⟩
    have hf' : plan.length ≤ fuel := by simpa using hf
    have hrun : ∀ (hr : Region.ready .any ops listed = [i]) (hp' : planOk ops L plan (listed.setIfInBounds i true) = true)
        (h' : ∀ K, (∀ a w, ((listed.setIfInBounds i true).getD L false = false → S w) → wpLin P ops Q S l' a w → K a w) → if Region.wanted o' (yielded ops a.tmps) = true then Oper.wp P o' a w K Q else K (a.put o'.dst undef) w),
        wpAnyE P ops Q S L (fuel + 1) listed a w := by
      intro hr hp' h'
      refine ⟨fun h0 => absurd (hr ▸ h0) (by simp), fun j hj => ?_⟩
      rw [hr] at hj
      obtain rfl : j = i := by simpa using hj
      exact wpOp_step ho (fun K hK => h' K (fun a w hs hn => hK a w ⟨hs, ih l' _ fuel a w hp' hl' hf' (hcl.step (by rw [hr]; simp)) hs hn⟩))
    rcases b with _ | _ | _ | _ | b
    · simp only [planOk, Bool.and_eq_true, Bool.not_eq_true', Bool.or_eq_true, decide_eq_true_eq, beq_eq_false_iff_ne] at hp
      obtain ⟨⟨⟨⟨⟨h1, h2⟩, h3⟩, h4⟩, h5⟩, h6⟩ := hp
      obtain ⟨v, hy, h⟩ := h
      exact wpAnyE_first ho (Region.noSelect_spec hs) (fun c a w => hQ _ _ ho c a _ w) fuel listed a w (Region.free_spec ho h1) (by simpa using h2) hy hcl (hS h3) (.inr ⟨fun _ h => h, h3, h4, h5, hS h3⟩)
        (ih l' _ fuel _ w h6 hl' hf' (hcl.step (by simpa using h2)) (fun _ => hS h3) h)
    · replace hp : (Region.ready .any ops listed == [i] && !listed.getD L false && planOk ops L plan (listed.setIfInBounds i true)) = true := hp
      simp only [Bool.and_eq_true, beq_iff_eq, Bool.not_eq_true'] at hp
      refine ⟨fun h0 => absurd (hp.1.1 ▸ h0) (by simp), fun j hj => ?_⟩
      rw [hp.1.1] at hj
      obtain rfl : j = i := by simpa using hj
      exact wpOp_step ho (fun K hK => h K (fun a w hs hn => hK a w ⟨fun _ => hs, ih l' _ fuel a w hp.2 hl' hf' (hcl.step (by rw [hp.1.1]; simp)) (fun _ => hs) hn⟩))
    · replace hp : (Region.ready .any ops listed == [i] && (listed.setIfInBounds i true).getD L false && planOk ops L plan (listed.setIfInBounds i true)) = true := hp
      simp only [Bool.and_eq_true, beq_iff_eq] at hp
      exact hrun hp.1.1 hp.2 (fun K hK => h K (fun a w hn => hK a w (fun hun => by rw [hp.1.2] at hun; cases hun) hn))
    · replace hp : (Region.free .any ops listed i && (Region.ready .any ops listed).contains i && !(i == L) && planOk ops L plan (listed.setIfInBounds i true)) = true := hp
      simp only [Bool.and_eq_true, Bool.not_eq_true', beq_eq_false_iff_ne] at hp
      obtain ⟨⟨⟨h1, h2⟩, h3⟩, h6⟩ := hp
      obtain ⟨v, hy, h⟩ := h
      exact wpAnyE_first ho (Region.noSelect_spec hs) (fun c a w => hQ _ _ ho c a _ w) fuel listed a w (Region.free_spec ho h1) (by simpa using h2) hy hcl trivial (.inl ⟨fun _ => trivial, h3, hS⟩)
        (ih l' _ fuel _ w h6 hl' hf' (hcl.step (by simpa using h2)) (fun hun => hS (by rw [getD_set_ne false h3] at hun; exact hun)) h)
    · replace hp : (Region.ready .any ops listed == [i] && (listed.setIfInBounds i true).getD L false && planOk ops L plan (listed.setIfInBounds i true)) = true := hp
      simp only [Bool.and_eq_true, beq_iff_eq] at hp
      exact hrun hp.1.1 hp.2 (fun K hK => h K (fun a w hn => hK a w (fun hun => by rw [hp.1.2] at hun; cases hun) hn))
theorem region_linD {id : Nat} {a : Act} {w : World} (S : World → Prop) (L : Nat) (plan : List (Nat × Nat)) (l : List (Oper × Nat)) (hm : P.follows .mixedOrders = true) (hs : (Region.noSelect ops && planOk ops L plan (Array.replicate ops.size false) && decide (plan.length ≤ ops.size)) = true)
    (hl : planOps ops plan = some l) (hQ : ∀ (i : Nat) (o : Oper), ops[i]? = some o → ∀ c a v w, Q (.panic c) (Act.put a o.dst v) w → Q (.panic c) a w) (hS : S w.drew) (h : ∀ wd, S wd → Ext w wd → wpLin P ops Q S l a wd) : (Code.region id ops true).wp P Q a w := by
  simp only [Bool.and_eq_true, decide_eq_true_eq] at hs
  exact wp_region_any hm (wpAny_of_E _ _ _ _ (lin_anyD hs.1.1 hQ plan l _ _ a _ hs.1.2 hl hs.2 (Closed.start _ _) (fun _ => hS) (h _ hS (Ext.refl _).drew)))
end
/-- Whatever the slots that are no result hold. -/
theorem leaves_same {P : Program} {fn : Func} {t t' : Array Value} (h : results fn t = results fn t') : ∀ (R : Ending → World → Prop) (ds : List Deferred) (u : FrameMode) (w : World), Leaves P fn t R ds u w → Leaves P fn t' R ds u w := by
  intro R ds
  induction ds with
  | nil =>
    intro u w hl
    cases u with
    | run => exact hl.elim
    | returning =>
      obtain ⟨v, h1, h2⟩ := hl
      exact ⟨v, h ▸ h1, h2⟩
    | panicking ch => exact hl
  | cons d ds ih =>
    intro u w hl
    obtain ⟨h0, fv, cap, f, args, h1, h2, h3⟩ := hl
    refine ⟨h0, fv, cap, f, args, h1, h2, h3.mono ?_⟩
    intro e u' w' he
    cases e with
    | returned v => exact ih _ _ he
    | panicked ch => exact ih _ _ he
    | outgrown => exact he
/-- The world behind a tear. -/
def tornW (w : World) (r e : Nat) : World := ((((w.setCell ⟨r, 5, none⟩ (.bool true)).setCell ⟨r, 6, none⟩ (.bool false)).setCell ⟨r, 0, none⟩ (.slice none 0 0)).setCell ⟨e, 0, none⟩ (.int .i64 260)).alloc (.cells #[] 65)
set_option maxRecDepth 20000 in
set_option maxHeartbeats 200000 in
theorem catch_torn (p e r n c : Nat) (A : Option Addr) (x : Rd) (z : Int) (older : List PanicEntry) (w : World) (hp : w.cell? ⟨p, 0, none⟩ = some (.pointer (some ⟨r, 0, none⟩))) (he : w.heap[e]? = some (.cells #[.int .i64 z] 27 (0, 0))) (hr : RdAt w r A n c x false) :
    CallsD Tryd.prog 37 #[.pointer (some ⟨p, 0, none⟩), .pointer (some ⟨e, 0, none⟩)] (.panicking ({ v := .iface 65 (.agg #[]), recovered := false } :: older)) w fun en u' w' =>
      en = .returned (.tuple #[]) ∧ u' = .panicking ({ v := .iface 65 (.agg #[]), recovered := true } :: older) ∧ w' = tornW w r e := by
  obtain ⟨d0, d1, d2, d3, d4, d5, d6, f0⟩ := hr.cells
  have f5 := f0 5
  have f6 := f0 6
  have f00 := f0 0
  have fe : w.frozen? ⟨e, 0, none⟩ = false := by simp [World.frozen?, he]
  have ce : w.cell? ⟨e, 0, none⟩ = some (.int .i64 z) := cell_of_row w e 0 _ 27 (0, 0) he
  have hre : r ≠ e := by rintro rfl; have := hr.blk; rw [he] at this; cases this
  have hpr : p ≠ r := by rintro rfl; rw [d0] at hp; cases hp
  have hta : ∀ w : World, (Instr.typeAssert (.iface 65 (.agg #[])) 20 65 true).run Tryd.prog w = .ok (.tuple #[.agg #[], .bool true]) w := fun w => by simp [Instr.typeAssert, run_underlying Tryd.underlying65]
  have lp : p < w.heap.size := World.block_lt_of_cell? w _ hp
  have lr : r < w.heap.size := hr.lt
  have le : e < w.heap.size := World.block_lt_of_cell? w _ ce
  have hep : e ≠ p := by rintro rfl; rw [hp] at ce; cases ce
  clear hr he f0
  refine callsD_of_wpS Tryd.func37 rfl fun c₀ cs hu => ?_
  simp only [Tryd.ntmps37, List.size_toArray, List.length_cons, List.length_nil, Nat.reduceAdd, Nat.reduceSub, Array.replicate_succ, Array.replicate_zero, List.push_toArray, List.append_toArray, List.nil_append, List.cons_append]
  apply wpS_seq
  apply wpS_region
  simp [wpOpsS, go_sem, recoverD, hu, Exit.thenS]
  refine wpS_of_wp ?_
  clear hu
  go_wp2_with fail
  simp [bodyPostS, results, Tryd.results37, tornW]
theorem catch_idle (p e : Nat) (w : World) :
    CallsD Tryd.prog 37 #[.pointer (some ⟨p, 0, none⟩), .pointer (some ⟨e, 0, none⟩)] .returning w fun en u' w' => en = .returned (.tuple #[]) ∧ u' = .returning ∧ w' = w := by
  refine callsD_of_wpS Tryd.func37 rfl fun c₀ cs hu => ?_
  simp only [Tryd.ntmps37, List.size_toArray, List.length_cons, List.length_nil, Nat.reduceAdd, Nat.reduceSub, Array.replicate_succ, Array.replicate_zero, List.push_toArray, List.append_toArray, List.nil_append, List.cons_append]
  apply wpS_seq
  apply wpS_region
  simp [wpOpsS, go_sem, recoverD, hu, Exit.thenS]
  refine wpS_of_wp ?_
  go_wp2_with fail
  cases c₀
  simp_all [bodyPostS, results, Tryd.results37]
/-- A new reader. -/
theorem new_any (w : World) : Calls Tryd.prog 21 #[] w fun e w' => e = .returned (.pointer (some ⟨w.heap.size, 0, none⟩)) ∧ Ext w w' ∧ RdAt w' w.heap.size none 0 0 Rd.new false := by
  have Z : Sp := ⟨fun s c => ((s ^^^ c.toNat) * 1099511628211) % 18446744073709551616, fun _ _ => false, fun _ _ => rfl, fun _ _ h => by cases h⟩
  go_enter Tryd.func21, Tryd.ntmps21
  go_wp2_with fail
  refine (sum_any Z none 0 0 [] w (BySl.nil w none) (by decide)).mono ?_
  rintro e w1 ⟨rfl, rfl⟩
  have hs : sumB Z [] = fnv0 := rfl
  rw [hs]
  clear hs
  unfold fnv0
  go_wp2_with fail
  go_ret
  refine ⟨rfl, (Ext.refl _).alloc _, heap_alloc_new w _, Own.nil _ _ _, by simp [Value.ownBlock]⟩
theorem done_any (r n c : Nat) (A : Option Addr) (x : Rd) (t : Bool) (w : World) (hr : RdAt w r A n c x t) : Calls Tryd.prog 19 #[.pointer (some ⟨r, 0, none⟩)] w fun e w' => e = .returned (.bool x.done) ∧ w = w' := by
  obtain ⟨d0, d1, d2, d3, d4, d5, d6, f0⟩ := hr.cells
  clear hr f0
  go_enter Tryd.func19, Tryd.ntmps19
  go_wp2_with fail
  go_ret
  exact ⟨rfl, rfl⟩
theorem done_nil (w : World) : Calls Tryd.prog 19 #[.pointer none] w fun e w' => e = .returned (.bool false) ∧ w = w' := by
  go_enter Tryd.func19, Tryd.ntmps19
  go_wp2_with fail
  go_ret
  exact ⟨rfl, rfl⟩
theorem held_any (r n c : Nat) (A : Option Addr) (x : Rd) (t : Bool) (w : World) (hr : RdAt w r A n c x t) : Calls Tryd.prog 20 #[.pointer (some ⟨r, 0, none⟩)] w fun e w' => e = .returned (.int .i64 (n : Int)) ∧ w = w' := by
  obtain ⟨d0, d1, d2, d3, d4, d5, d6, f0⟩ := hr.cells
  clear hr f0
  go_enter Tryd.func20, Tryd.ntmps20
  go_wp2_with fail
  go_ret
  exact ⟨rfl, rfl⟩
theorem held_nil (w : World) : Calls Tryd.prog 20 #[.pointer none] w fun e w' => e = .returned (.int .i64 0) ∧ w = w' := by
  go_enter Tryd.func20, Tryd.ntmps20
  go_wp2_with fail
  go_ret
  exact ⟨rfl, rfl⟩
end Go.Proofs.YtcpnnkkfndgpjaaDoor
