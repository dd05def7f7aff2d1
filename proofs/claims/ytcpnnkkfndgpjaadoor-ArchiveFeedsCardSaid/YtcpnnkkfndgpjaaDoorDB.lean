/- The document's reader, plainly: she holds all bytes that came; what she does next is what the reader does. -/
import Derived.Test.YtcpnnkkfndgpjaaDoorPE
namespace Go.Proofs.YtcpnnkkfndgpjaaDoor

/-- A reader that has begun, and the document's: all bytes, how many of them got whole, items told, the last path, whether the end came. -/
structure Sim (Z : Sp) (y : Rd) (B : Bs) (f t : Nat) (a : Bs) (h : Bool) : Prop where
  b : y.b = B.drop f
  le : f ≤ B.length
  sum : h = false → y.sum = fnv Z fnv0 (B.take f)
  items : y.items = t
  ahead : y.ahead = a
  done : y.done = h
  begun : y.begun = true
  four : 4 ≤ f
  head : headOk B = true
  first : t = 0 → a = []
/-- Between two pieces. -/
def SimAny (Z : Sp) (y : Rd) (B : Bs) (f t : Nat) (a : Bs) (h : Bool) : Prop :=
  (y = Rd.new.on B ∧ f = 0 ∧ t = 0 ∧ a = [] ∧ h = false ∧ B.length < 4) ∨ Sim Z y B f t a h
section
variable {Z : Sp} {y : Rd} {B : Bs} {f t : Nat} {a : Bs} {h : Bool}
theorem SimAny.new : SimAny Z Rd.new [] 0 0 [] false := .inl ⟨rfl, rfl, rfl, rfl, rfl, by decide⟩
theorem Sim.on (s : Sim Z y B f t a h) (c : Bs) : Sim Z (y.on c) (B ++ c) f t a h := by
  have h1 := s.le
  have h2 := s.four
  exact ⟨by show y.b ++ c = _; rw [s.b, List.drop_append_of_le_length h1], by simp; omega, fun e => by rw [List.take_append_of_le_length h1]; exact s.sum e, s.items, s.ahead, s.done, s.begun, s.four, by rw [head_app4 (by omega)]; exact s.head, s.first⟩
theorem new_on (B c : Bs) : (Rd.new.on B).on c = Rd.new.on (B ++ c) := by simp [Rd.on]
theorem new_bad (hb : headOk B = false) : stp Z (Rd.new.on B) = .tear := by
  unfold stp
  rw [if_pos (by rfl), if_neg (by show ¬ headOk ([] ++ B) = true; rw [List.nil_append, hb]; decide)]
theorem new_few (hb : headOk B = true) (hl : B.length < 4) : stp Z (Rd.new.on B) = .stop := by
  unfold stp
  rw [if_pos (by rfl), if_pos (by show headOk ([] ++ B) = true; rwa [List.nil_append]), if_neg (by show ¬ 4 ≤ ([] ++ B).length; simp; omega)]
theorem new_four (hb : headOk B = true) (hl : 4 ≤ B.length) : ∃ y', stp Z (Rd.new.on B) = .go none y' ∧ Sim Z y' B 4 0 [] false := by
  refine ⟨_, by
    unfold stp
    rw [if_pos (by rfl), if_pos (by show headOk ([] ++ B) = true; rwa [List.nil_append]), if_pos (by show 4 ≤ ([] ++ B).length; simpa using hl)], ?_⟩
  exact ⟨by show ([] ++ B).drop 4 = _; rw [List.nil_append], hl, fun _ => by show fnv Z fnv0 (([] ++ B).take 4) = _; rw [List.nil_append], rfl, rfl, rfl, rfl, Nat.le_refl _, hb, fun _ => rfl⟩
theorem Sim.ends (s : Sim Z y B f t a true) : stp Z y = if B.length ≤ f then .stop else .tear := by
  unfold stp
  rw [if_neg (by rw [s.begun]; decide), if_pos s.done, s.b]
  by_cases hl : B.length ≤ f
  · rw [if_pos hl, if_pos (List.drop_eq_nil_of_le hl)]
  · rw [if_neg hl, if_neg (fun e => hl (by simpa using e))]
theorem Sim.more (s : Sim Z y B f t a false) (n : Nat) : fnv Z y.sum (y.b.take n) = fnv Z fnv0 (B.take (f + n)) := by
  rw [s.sum rfl, s.b, ← fnv_append, List.take_add]
theorem Sim.step (s : Sim Z y B f t a false) : match front Z t a (fnv Z fnv0 (B.take f)) (B.drop f) with
    | .bad => stp Z y = .tear
    | .wait => stp Z y = .stop
    | .item n x => ∃ y', stp Z y = .go (some x) y' ∧ Sim Z y' B (f + n) (t + 1) x.path false
    | .fin => ∃ y', stp Z y = .go none y' ∧ Sim Z y' B (f + 13) t a true := by
  have e : stp Z y = match front Z t a (fnv Z fnv0 (B.take f)) (B.drop f) with
    | .bad => .tear
    | .wait => .stop
    | .item n x => .go (some x) { y with b := y.b.drop n, sum := fnv Z y.sum (y.b.take n), items := y.items + 1, ahead := x.path }
    | .fin => .go none { y with b := y.b.drop 13, sum := fnv Z y.sum (y.b.take 5), done := true } := by
    conv => lhs; unfold stp
    rw [if_neg (by rw [s.begun]; decide), if_neg (by rw [s.done]; decide), s.items, s.ahead, s.b, s.sum rfl]
    rfl
  cases hF : front Z t a (fnv Z fnv0 (B.take f)) (B.drop f) with
  | bad => rw [hF] at e; exact e
  | wait => rw [hF] at e; exact e
  | item n x =>
    rw [hF] at e
    have hl := front_len Z hF
    rw [List.length_drop] at hl
    refine ⟨_, e, ⟨?_, by omega, fun _ => s.more n, ?_, rfl, s.done, s.begun, by have := s.four; omega, s.head, fun h => by omega⟩⟩
    · show y.b.drop n = _; rw [s.b, List.drop_drop]
    · show y.items + 1 = _; rw [s.items]
  | fin =>
    rw [hF] at e
    have hl := front_fin_len Z hF
    rw [List.length_drop] at hl
    refine ⟨_, e, ⟨?_, by omega, fun h => (by cases h), s.items, s.ahead, rfl, s.begun, by have := s.four; omega, s.head, s.first⟩⟩
    show y.b.drop 13 = _; rw [s.b, List.drop_drop]
end
end Go.Proofs.YtcpnnkkfndgpjaaDoor
