/- The law's two readers side by side. -/
import Derived.Test.YtcpnnkkfndgpjaaDoorDJ
import Derived.Test.YtcpnnkkfndgpjaaDoorED
namespace Go.Proofs.YtcpnnkkfndgpjaaDoor
open Go.RowKit

/-- Our reader in memory: under way, or torn. -/
def RS (w : World) (r : Nat) (A : Option Addr) (n c : Nat) : Option Rd → Prop
  | some y => RdAt w r A n c y false ∧ y.Fine
  | none => A = none ∧ n = 0 ∧ c = 0 ∧ ∃ y, RdAt w r none 0 0 y true ∧ y.done = false
/-- The document's. -/
def DS (Z : Sp) (w : World) (r : Nat) (A : Option Addr) (n c : Nat) : Option Rd → Prop
  | some y => ∃ B f t a h, RfAt w r A n c B f t a false h ∧ SimAny Z y B f t a h ∧ t * 21 ≤ f ∧ f ≤ n
  | none => ∃ B f t a h, RfAt w r A n c B f t a true h ∧ f ≤ n
def heldQ : Option Rd → Nat
  | some y => y.b.length
  | none => 0
section
variable {Z : Sp} {w w' : World} {r n c : Nat} {A : Option Addr} {q : Option Rd} {S : Nat → Prop}
theorem RS.blk (h : RS w r A n c q) : ∃ cs, w.heap[r]? = some (.cells cs 63 (0, 0)) := by
  cases q with
  | some y => exact ⟨_, h.1.blk⟩
  | none => obtain ⟨-, -, -, y, h, -⟩ := h; exact ⟨_, h.blk⟩
theorem RS.own (h : RS w r A n c q) : ∃ xs, Own w 5 1 (.slice A n c) n xs := by
  cases q with
  | some y => exact ⟨_, h.1.own⟩
  | none => obtain ⟨rfl, rfl, rfl, y, -, -⟩ := h; exact ⟨_, Own.nil _ _ _⟩
theorem RS.mod (h : RS w r A n c q) (hm : Mod S w w') (h1 : ¬ S r) (h2 : ∀ k, (Value.slice A n c).ownBlock = some k → ¬ S k) : RS w' r A n c q := by
  cases q with
  | some y => exact ⟨h.1.mod hm h1 h2, h.2⟩
  | none => obtain ⟨rfl, rfl, rfl, y, h, h3⟩ := h; exact ⟨rfl, rfl, rfl, y, h.mod hm h1 h2, h3⟩
theorem DS.blk (h : DS Z w r A n c q) : ∃ cs, w.heap[r]? = some (.cells cs 46 (0, 0)) := by
  cases q with
  | some y => obtain ⟨_, _, _, _, _, h, -⟩ := h; exact ⟨_, h.blk⟩
  | none => obtain ⟨_, _, _, _, _, h, -⟩ := h; exact ⟨_, h.blk⟩
theorem DS.own (h : DS Z w r A n c q) : ∃ xs, Own w 5 1 (.slice A n c) n xs := by
  cases q with
  | some y => obtain ⟨_, _, _, _, _, h, -⟩ := h; exact ⟨_, h.own⟩
  | none => obtain ⟨_, _, _, _, _, h, -⟩ := h; exact ⟨_, h.own⟩
theorem DS.mod (h : DS Z w r A n c q) (hm : Mod S w w') (h1 : ¬ S r) (h2 : ∀ k, (Value.slice A n c).ownBlock = some k → ¬ S k) : DS Z w' r A n c q := by
  cases q with
  | some y => obtain ⟨B, f, t, a, d, h, h3⟩ := h; exact ⟨B, f, t, a, d, h.mod hm h1 h2, h3⟩
  | none => obtain ⟨B, f, t, a, d, h, h3⟩ := h; exact ⟨B, f, t, a, d, h.mod hm h1 h2, h3⟩
theorem RS.lt (h : RS w r A n c q) : r < w.heap.size := by obtain ⟨_, h⟩ := h.blk; exact (Array.getElem?_eq_some_iff.1 h).1
theorem DS.lt (h : DS Z w r A n c q) : r < w.heap.size := by obtain ⟨_, h⟩ := h.blk; exact (Array.getElem?_eq_some_iff.1 h).1
theorem RS.olt (h : RS w r A n c q) : ∀ k, (Value.slice A n c).ownBlock = some k → k < w.heap.size := by obtain ⟨_, h⟩ := h.own; exact h.lt
theorem DS.olt (h : DS Z w r A n c q) : ∀ k, (Value.slice A n c).ownBlock = some k → k < w.heap.size := by obtain ⟨_, h⟩ := h.own; exact h.lt
theorem rs_done (h : RS w r A n c q) : Calls Tryd.prog 19 #[.pointer (some ⟨r, 0, none⟩)] w fun e w' => e = .returned (.bool (doneQ q)) ∧ w = w' := by
  cases q with
  | some y => exact done_any r n c A y false w h.1
  | none =>
    obtain ⟨rfl, rfl, rfl, y, h, h3⟩ := h
    have := done_any r 0 0 none y true w h
    rw [h3] at this
    exact this
theorem rs_held (h : RS w r A n c q) : Calls Tryd.prog 20 #[.pointer (some ⟨r, 0, none⟩)] w fun e w' => e = .returned (.int .i64 (heldQ q : Int)) ∧ w = w' := by
  cases q with
  | some y =>
    have := held_any r n c A y false w h.1
    rw [h.1.len] at this
    exact this
  | none =>
    obtain ⟨rfl, rfl, rfl, y, h, h3⟩ := h
    exact held_any r 0 0 none y true w h
theorem SimAny.done {y : Rd} {B : Bs} {f t : Nat} {a : Bs} {h : Bool} (s : SimAny Z y B f t a h) : y.done = h := by
  rcases s with ⟨rfl, -, -, -, rfl, -⟩ | s
  · rfl
  · exact s.done
theorem SimAny.held {y : Rd} {B : Bs} {f t : Nat} {a : Bs} {h : Bool} (s : SimAny Z y B f t a h) : y.b.length = B.length - f := by
  rcases s with ⟨rfl, rfl, -, -, -, -⟩ | s
  · rfl
  · rw [s.b, List.length_drop]
theorem ds_done (h : DS Z w r A n c q) : Calls Tryd.prog 23 #[.pointer (some ⟨r, 0, none⟩)] w fun e w' => e = .returned (.bool (doneQ q)) ∧ w = w' := by
  cases q with
  | some y =>
    obtain ⟨B, f, t, a, d, h, h3, -⟩ := h
    have := rdone_any r A n c B f t a false d w h
    have e : doneQ (some y) = (d && !false) := by show y.done = _; rw [h3.done]; simp
    rw [e]
    exact this
  | none =>
    obtain ⟨B, f, t, a, d, h, -⟩ := h
    have := rdone_any r A n c B f t a true d w h
    have e : doneQ none = (d && !true) := by simp [doneQ]
    rw [e]
    exact this
theorem ds_held (h : DS Z w r A n c q) (hn : n ≤ 1073741824) : Calls Tryd.prog 24 #[.pointer (some ⟨r, 0, none⟩)] w fun e w' => e = .returned (.int .i64 (heldQ q : Int)) ∧ Ext w w' := by
  cases q with
  | some y =>
    obtain ⟨B, f, t, a, d, h, h3, -, h4⟩ := h
    have := rheld_any r A n c B f t a false d w h hn h4
    have e : heldQ (some y) = n - f := by show y.b.length = _; rw [h3.held, ← h.len]
    rw [e]
    exact this
  | none =>
    obtain ⟨B, f, t, a, d, h, h4⟩ := h
    exact rheld_any r A n c B f t a true d w h hn h4
/-- A piece fed: what comes of it. -/
def RunsQ (Z : Sp) (q : Option Rd) (pc : Bs) (l : List It) (q' : Option Rd) : Prop :=
  match q with
  | some y => Runs Z (y.on pc) l q'
  | none => l = [] ∧ q' = none
theorem RunsQ.det {pc : Bs} {l l' : List It} {q1 q2 : Option Rd} (h : RunsQ Z q pc l q1) (k : RunsQ Z q pc l' q2) : l = l' ∧ q1 = q2 := by
  cases q with
  | some y => exact Runs.det Z h k
  | none => exact ⟨h.1.trans k.1.symm, h.2.trans k.2.symm⟩
theorem RunsQ.cap {pc : Bs} {l : List It} {q1 : Option Rd} {A : Option Addr} (h : RunsQ Z q pc l q1) (hr : RS w r A n c q) : l.length * 21 ≤ n + pc.length := by
  cases q with
  | some y =>
    have := (runs_cap h).1
    have e : (y.on pc).b.length = n + pc.length := by show (y.b ++ pc).length = _; rw [List.length_append, hr.1.len]
    omega
  | none => rw [h.1]; simp
end
theorem rs_feed (Z : Sp) (hZ : Z.ok = okP) (r : Nat) (A X : Option Addr) (n c m d : Nat) (q : Option Rd) (l : Bs) (mm : Int) (w : World) (hr : RS w r A n c q) (hl : BySl w X m l) (hn : n + m ≤ 1073741824) (hm : w.cell? ⟨0, 0, none⟩ = some (.int .i64 mm)) (h0 : (Value.slice A n c).ownBlock ≠ some 0) :
    Calls Tryd.prog 18 #[.pointer (some ⟨r, 0, none⟩), .slice X m d] w fun e w' => ∃ (vs : List IV) (q' : Option Rd) (LA : Option Addr) (lc : Nat) (A' : Option Addr) (n' c' : Nat), RunsQ Z q l (vs.map (·.x)) q' ∧ e = .returned (.tuple #[.slice LA vs.length lc, .int .i64 (if q'.isNone then 260 else 0)]) ∧ ItMine w w' (.slice LA vs.length lc) vs ∧ Mod (fun k => k = r ∨ (Value.slice A n c).ownBlock = some k) w w' ∧ RS w' r A' n' c' q' ∧ n' ≤ n + m ∧
      (∀ k, (Value.slice A' n' c').ownBlock = some k → (Value.slice A n c).ownBlock = some k ∨ w.heap.size ≤ k) ∧ (∀ i ∈ vs, ∀ k, i.dat.ownBlock = some k → (Value.slice A' n' c').ownBlock ≠ some k) := by
  cases q with
  | some y =>
    refine (feed_any Z hZ r A X n c m d y l mm w hr.1 hr.2 hl hn hm h0).mono ?_
    rintro e w' ⟨vs, q', v, h1, h2, h3, h4⟩
    obtain ⟨LA, lc, rfl, -⟩ := h2.row.form
    have e : (y.on l).b.length = n + m := by show (y.b ++ l).length = _; rw [List.length_append, hr.1.len, hl.1]
    rcases h4 with ⟨y2, A', n', c', rfl, rfl, h5, h6, h7, h8, h9⟩ | ⟨y2, rfl, rfl, h5, h6⟩
    · exact ⟨vs, some y2, LA, lc, A', n', c', h1, rfl, h2, h3, ⟨h5, h6⟩, by omega, h8, h9⟩
    · exact ⟨vs, none, LA, lc, none, 0, 0, h1, rfl, h2, h3, ⟨rfl, rfl, rfl, y2, h5, h6⟩, Nat.zero_le _, fun k hk => by simp [Value.ownBlock] at hk, fun _ _ k _ => by simp [Value.ownBlock]⟩
  | none =>
    obtain ⟨rfl, rfl, rfl, y, h, h3⟩ := hr
    refine (feed_torn r none X 0 0 m d y w h).mono ?_
    rintro e w' ⟨rfl, hx⟩
    exact ⟨[], none, none, 0, none, 0, 0, ⟨rfl, rfl⟩, rfl, ItMine.nil _ _, Mod.mono hx (fun _ _ f => f.elim), ⟨rfl, rfl, rfl, y, h.ext hx, h3⟩, Nat.zero_le _, fun k hk => by simp [Value.ownBlock] at hk, fun _ h => by simp at h⟩
theorem ds_feed (Z : Sp) (hZ : Z.ok = okP) (r : Nat) (A X : Option Addr) (n c m d : Nat) (q : Option Rd) (l : Bs) (w : World) (hr : DS Z w r A n c q) (hl : BySl w X m l) (hn : n + m ≤ 1000000) :
    Calls Tryd.prog 22 #[.pointer (some ⟨r, 0, none⟩), .slice X m d] w fun e w' => ∃ (vs : List IV) (q' : Option Rd) (LA : Option Addr) (lc : Nat) (A' : Option Addr) (n' c' : Nat), RunsQ Z q l (vs.map (·.x)) q' ∧ e = .returned (.tuple #[.slice LA vs.length lc, .int .i64 (if q'.isNone then 260 else 0)]) ∧ ItMine w w' (.slice LA vs.length lc) vs ∧ Mod (fun k => k = r ∨ (Value.slice A n c).ownBlock = some k) w w' ∧ DS Z w' r A' n' c' q' ∧ n' ≤ n + m ∧
      (∀ k, (Value.slice A' n' c').ownBlock = some k → (Value.slice A n c).ownBlock = some k ∨ w.heap.size ≤ k) := by
  cases q with
  | some y =>
    obtain ⟨B, f, t, a, dd, h, h3, h4, h5⟩ := hr
    refine (rfeed_any Z hZ r A X n c m d B l f t a dd y w h h3 h4 h5 hl hn).mono ?_
    rintro e w' ⟨vs, q', v, A', c', B', f', t', a', d', k1, k2, k3, rfl, k5, k6, k7, k8⟩
    obtain ⟨LA, lc, rfl, -⟩ := k2.row.form
    refine ⟨vs, q', LA, lc, A', n + m, c', k1, rfl, k2, k3, ?_, Nat.le_refl _, k7⟩
    cases q' with
    | some y2 => exact ⟨B', f', t', a', d', k5, (k8 y2 rfl).1, (k8 y2 rfl).2, k6⟩
    | none => exact ⟨B', f', t', a', d', k5, k6⟩
  | none =>
    obtain ⟨B, f, t, a, dd, h, h5⟩ := hr
    refine (rfeed_torn r A X n c m d B f t a dd w h).mono ?_
    rintro e w' ⟨rfl, rfl⟩
    exact ⟨[], none, none, 0, A, n, c, ⟨rfl, rfl⟩, rfl, ItMine.nil _ _, Mod.refl _ _, ⟨B, f, t, a, dd, h, h5⟩, by omega, fun k hk => .inl hk⟩
end Go.Proofs.YtcpnnkkfndgpjaaDoor
