/- Trees as bytes, plainly: numbers as bytes, the sum, an item's bytes, Write, what stands at a reader's front, a reader's steps. -/
namespace Go.Proofs.YtcpnnkkfndgpjaaDoor

abbrev Bs := List UInt8

/-- What the sum's step and a path's test are. -/
structure Sp where
  st : Nat → UInt8 → Nat
  ok : Bs → Bs → Bool
  st_eq : ∀ s c, st s c = ((s ^^^ c.toNat) * 1099511628211) % 18446744073709551616
  ok_len : ∀ p a, ok p a = true → 1 ≤ p.length ∧ p.length ≤ 4096
def fnv (Z : Sp) (s : Nat) (l : Bs) : Nat := l.foldl Z.st s
def fnv0 : Nat := 14695981039346656037
def sumB (Z : Sp) (l : Bs) : Nat := fnv Z fnv0 l
section
variable {Z : Sp}
theorem fnv_append (s : Nat) (l m : Bs) : fnv Z s (l ++ m) = fnv Z (fnv Z s l) m := by unfold fnv; rw [List.foldl_append]
theorem fnv_snoc (s : Nat) (l : Bs) (c : UInt8) : fnv Z s (l ++ [c]) = Z.st (fnv Z s l) c := by unfold fnv; rw [List.foldl_append, List.foldl_cons, List.foldl_nil]
theorem fnv_cons (s : Nat) (c : UInt8) (l : Bs) : fnv Z s (c :: l) = fnv Z (Z.st s c) l := rfl
theorem st_lt (s : Nat) (c : UInt8) : Z.st s c < 18446744073709551616 := by rw [Z.st_eq]; exact Nat.mod_lt _ (by decide)
theorem fnv_lt : ∀ (l : Bs) (s : Nat), s < 18446744073709551616 → fnv Z s l < 18446744073709551616
  | [], _, h => h
  | c :: l, s, _ => by rw [fnv_cons]; exact fnv_lt l _ (st_lt _ _)
theorem sumB_lt (l : Bs) : sumB Z l < 18446744073709551616 := fnv_lt l _ (by decide)
theorem mul_inj {a b : Nat} (ha : a < 18446744073709551616) (hb : b < 18446744073709551616) (h : a * 1099511628211 % 18446744073709551616 = b * 1099511628211 % 18446744073709551616) : a = b := by
  have key : ∀ a : Nat, a < 18446744073709551616 → (a * 1099511628211 % 18446744073709551616) * 14886173955864302971 % 18446744073709551616 = a := by
    intro a ha
    rw [Nat.mod_mul_mod, Nat.mul_assoc, Nat.mul_mod, show 1099511628211 * 14886173955864302971 % 18446744073709551616 = 1 from by decide, Nat.mul_one, Nat.mod_mod, Nat.mod_eq_of_lt ha]
  rw [← key a ha, h, key b hb]
theorem xor_lt64 {a b : Nat} (ha : a < 18446744073709551616) (hb : b < 18446744073709551616) : a ^^^ b < 18446744073709551616 :=
  Nat.xor_lt_two_pow (n := 64) ha hb
theorem xor_cancel {a b c : Nat} (h : a ^^^ c = b ^^^ c) : a = b := by
  have := congrArg (· ^^^ c) h
  simpa [Nat.xor_assoc] using this
theorem u8_lt64 (c : UInt8) : c.toNat < 18446744073709551616 := by have := c.toNat_lt; omega
theorem fnv_inj : ∀ (l : Bs) {s t : Nat}, s < 18446744073709551616 → t < 18446744073709551616 → fnv Z s l = fnv Z t l → s = t
  | [], _, _, _, _, h => h
  | c :: l, s, t, hs, ht, h => by
    rw [fnv_cons, fnv_cons] at h
    have h1 := fnv_inj l (st_lt _ _) (st_lt _ _) h
    rw [Z.st_eq, Z.st_eq] at h1
    have h2 := mul_inj (xor_lt64 hs (u8_lt64 c)) (xor_lt64 ht (u8_lt64 c)) h1
    exact xor_cancel h2
theorem fnv_turn {s : Nat} (hs : s < 18446744073709551616) (p q : Bs) {c d : UInt8} (h : c ≠ d) : fnv Z s (p ++ c :: q) ≠ fnv Z s (p ++ d :: q) := by
  intro e
  rw [fnv_append, fnv_append, fnv_cons, fnv_cons] at e
  have hp := fnv_lt (Z := Z) p s hs
  have h1 := fnv_inj q (st_lt _ _) (st_lt _ _) e
  rw [Z.st_eq, Z.st_eq] at h1
  have h2 := mul_inj (xor_lt64 hp (u8_lt64 c)) (xor_lt64 hp (u8_lt64 d)) h1
  exact h (UInt8.toNat_inj.1 (xor_cancel (by rw [Nat.xor_comm, h2, Nat.xor_comm])))
end

/-- A number as bytes, the highest first. -/
def beN : Nat → Nat → Bs
  | 0, _ => []
  | k + 1, n => UInt8.ofNat (n / 256 ^ k) :: beN k n
theorem beN_len : ∀ k n, (beN k n).length = k
  | 0, _ => rfl
  | k + 1, n => by simp [beN, beN_len k n]
def numA (a : Nat) (l : Bs) : Nat := l.foldl (fun n c => n * 256 + c.toNat) a
def numL (l : Bs) : Nat := numA 0 l
theorem numA_eq : ∀ (l : Bs) (a : Nat), numA a l = a * 256 ^ l.length + numL l
  | [], a => by simp [numA, numL]
  | c :: l, a => by
    have h1 : numA a (c :: l) = numA (a * 256 + c.toNat) l := rfl
    have h2 : numL (c :: l) = numA (0 * 256 + c.toNat) l := rfl
    rw [h1, h2, numA_eq l, numA_eq l, List.length_cons, Nat.pow_succ, Nat.add_mul, Nat.add_mul, Nat.mul_assoc, Nat.mul_comm 256]
    simp [Nat.add_assoc]
theorem numL_cons (c : UInt8) (l : Bs) : numL (c :: l) = c.toNat * 256 ^ l.length + numL l := by
  have h2 : numL (c :: l) = numA (0 * 256 + c.toNat) l := rfl
  rw [h2, numA_eq]; simp
theorem numL_snoc (l : Bs) (c : UInt8) : numL (l ++ [c]) = numL l * 256 + c.toNat := by unfold numL numA; rw [List.foldl_append]; rfl
theorem numL_lt : ∀ l : Bs, numL l < 256 ^ l.length
  | [] => by simp [numL, numA]
  | c :: l => by
    have h := numL_lt l
    have hc := c.toNat_lt
    rw [numL_cons, List.length_cons, Nat.pow_succ]
    have : c.toNat * 256 ^ l.length ≤ 255 * 256 ^ l.length := Nat.mul_le_mul_right _ (by omega)
    omega
theorem numL_beN : ∀ k n, numL (beN k n) = n % 256 ^ k
  | 0, n => by simp [beN, numL, numA, Nat.mod_one]
  | k + 1, n => by
    rw [beN, numL_cons, beN_len, numL_beN k n, Nat.pow_succ, Nat.mod_mul]
    have : (UInt8.ofNat (n / 256 ^ k)).toNat = n / 256 ^ k % 256 := by simp
    rw [this, Nat.mul_comm (256 ^ k)]
    omega
theorem numL_be {k n : Nat} (h : n < 256 ^ k) : numL (beN k n) = n := by rw [numL_beN, Nat.mod_eq_of_lt h]
theorem numL_inj : ∀ {l m : Bs}, l.length = m.length → numL l = numL m → l = m
  | [], [], _, _ => rfl
  | c :: l, d :: m, h, e => by
    have h' : l.length = m.length := by simpa using h
    rw [numL_cons, numL_cons, h'] at e
    have h1 := numL_lt l
    have h2 := numL_lt m
    rw [h'] at h1
    have hcd : c.toNat = d.toNat := by
      have e1 : (c.toNat * 256 ^ m.length + numL l) / 256 ^ m.length = c.toNat := by
        rw [Nat.mul_comm, Nat.mul_add_div (Nat.pos_of_ne_zero (by simp)), Nat.div_eq_of_lt h1, Nat.add_zero]
      have e2 : (d.toNat * 256 ^ m.length + numL m) / 256 ^ m.length = d.toNat := by
        rw [Nat.mul_comm, Nat.mul_add_div (Nat.pos_of_ne_zero (by simp)), Nat.div_eq_of_lt h2, Nat.add_zero]
      rw [← e1, e, e2]
    obtain rfl := UInt8.toNat_inj.1 hcd
    rw [numL_inj h' (by omega)]
theorem be_num {l : Bs} {k n : Nat} (hl : l.length = k) (hn : numL l = n) : l = beN k n := by
  refine numL_inj (by rw [hl, beN_len]) ?_
  rw [numL_be (by rw [← hn, ← hl]; exact numL_lt l), hn]

structure It where
  path : Bs
  kind : Int
  data : Bs
def kbyte (k : Int) : UInt8 := UInt8.ofNat (k % 256).toNat
def kint (c : UInt8) : Int := if c.toNat < 128 then (c.toNat : Int) else (c.toNat : Int) - 256
theorem kint_kbyte {k : Int} (h1 : -128 ≤ k) (h2 : k ≤ 127) : kint (kbyte k) = k := by
  unfold kint kbyte
  simp only [UInt8.toNat_ofNat']
  split <;> omega
theorem kbyte_kint (c : UInt8) : kbyte (kint c) = c := by
  have hc := c.toNat_lt
  apply UInt8.toNat_inj.1
  unfold kint kbyte
  simp only [UInt8.toNat_ofNat']
  split <;> omega
def bodyB (x : It) : Bs := kbyte x.kind :: (beN 2 x.path.length ++ beN 2 (65535 - x.path.length) ++ x.path ++ beN 4 x.data.length ++ beN 4 (4294967295 - x.data.length) ++ x.data)
def enc (Z : Sp) (x : It) : Bs := bodyB x ++ beN 8 (sumB Z (bodyB x))
def encs (Z : Sp) (l : List It) : Bs := l.flatMap (enc Z)
def holdsN (k : Int) : Int := if k = 0 ∨ k = 2 then 4194304 else if k = 1 ∨ k = 4 then 0 else -1
def headB : Bs := [77, 84, 65, 49]
def endB (n : Nat) : Bs := 255 :: beN 4 n
def allB (Z : Sp) (l : List It) : Bs := headB ++ encs Z l ++ endB l.length ++ beN 8 (sumB Z (headB ++ encs Z l ++ endB l.length))

section
variable (Z : Sp)
def verdict (ahead : Bs) (x : It) : Int := if 4194304 < x.data.length then 3 else if holdsN x.kind < (x.data.length : Int) ∨ Z.ok x.path ahead = false then 2 else 0
def badAt : Bs → Nat → List It → Option (Int × Nat)
  | _, _, [] => none
  | ahead, i, x :: l => if verdict Z ahead x = 0 then badAt x.path (i + 1) l else some (verdict Z ahead x, i)
def writeN (l : List It) : Bs × Int × Nat := if 4096 < l.length then ([], 3, 4096) else match badAt Z [] 0 l with
  | some (e, i) => ([], e, i)
  | none => (allB Z l, 0, 0)

inductive Fr where
  | bad
  | wait
  | item (n : Nat) (x : It)
  | fin
def frontItem (items : Nat) (ahead : Bs) (k : UInt8) (b : Bs) : Fr :=
  if holdsN (kint k) < 0 ∨ 4096 ≤ items then .bad
  else if b.length < 5 then .wait
  else if ¬ (numL ((b.drop 1).take 2) + numL ((b.drop 3).take 2) = 65535 ∧ 1 ≤ numL ((b.drop 1).take 2) ∧ numL ((b.drop 1).take 2) ≤ 4096) then .bad
  else if b.length < 5 + numL ((b.drop 1).take 2) then .wait
  else if Z.ok ((b.drop 5).take (numL ((b.drop 1).take 2))) ahead = false then .bad
  else if b.length < 13 + numL ((b.drop 1).take 2) then .wait
  else if ¬ (numL ((b.drop (5 + numL ((b.drop 1).take 2))).take 4) + numL ((b.drop (9 + numL ((b.drop 1).take 2))).take 4) = 4294967295 ∧ (numL ((b.drop (5 + numL ((b.drop 1).take 2))).take 4) : Int) ≤ holdsN (kint k)) then .bad
  else if b.length < 21 + numL ((b.drop 1).take 2) + numL ((b.drop (5 + numL ((b.drop 1).take 2))).take 4) then .wait
  else if numL ((b.drop (13 + numL ((b.drop 1).take 2) + numL ((b.drop (5 + numL ((b.drop 1).take 2))).take 4))).take 8) ≠ sumB Z (b.take (13 + numL ((b.drop 1).take 2) + numL ((b.drop (5 + numL ((b.drop 1).take 2))).take 4))) then .bad
  else .item (21 + numL ((b.drop 1).take 2) + numL ((b.drop (5 + numL ((b.drop 1).take 2))).take 4)) ⟨(b.drop 5).take (numL ((b.drop 1).take 2)), kint k, (b.drop (13 + numL ((b.drop 1).take 2))).take (numL ((b.drop (5 + numL ((b.drop 1).take 2))).take 4))⟩
def frontEnd (items sum : Nat) (b : Bs) : Fr :=
  if 5 ≤ b.length ∧ numL ((b.drop 1).take 4) ≠ items then .bad
  else if b.length < 13 then .wait
  else if numL ((b.drop 5).take 8) ≠ fnv Z sum (b.take 5) then .bad
  else .fin
def front (items : Nat) (ahead : Bs) (sum : Nat) : Bs → Fr
  | [] => .wait
  | k :: r => if k = 255 then frontEnd Z items sum (k :: r) else frontItem Z items ahead k (k :: r)

structure Rd where
  b : Bs
  sum : Nat
  begun : Bool
  items : Nat
  ahead : Bs
  done : Bool
def Rd.new : Rd := ⟨[], fnv0, false, 0, [], false⟩
def Rd.on (r : Rd) (c : Bs) : Rd := { r with b := r.b ++ c }
inductive Stp where
  | stop
  | tear
  | go (o : Option It) (r : Rd)
def headOk (b : Bs) : Bool := b.take 4 == headB.take b.length
def stp (r : Rd) : Stp :=
  if r.begun = false then
    if headOk r.b = true then if 4 ≤ r.b.length then .go none { r with begun := true, b := r.b.drop 4, sum := fnv Z r.sum (r.b.take 4) } else .stop else .tear
  else if r.done = true then if r.b = [] then .stop else .tear
  else match front Z r.items r.ahead r.sum r.b with
    | .bad => .tear
    | .wait => .stop
    | .item n x => .go (some x) { r with b := r.b.drop n, sum := fnv Z r.sum (r.b.take n), items := r.items + 1, ahead := x.path }
    | .fin => .go none { r with b := r.b.drop 13, sum := fnv Z r.sum (r.b.take 5), done := true }
inductive Runs : Rd → List It → Option Rd → Prop
  | stop {r : Rd} (h : stp Z r = .stop) : Runs r [] (some r)
  | tear {r : Rd} (h : stp Z r = .tear) : Runs r [] none
  | step {r r' : Rd} {o : Option It} {l : List It} {q : Option Rd} (h : stp Z r = .go o r') (k : Runs r' l q) : Runs r (o.toList ++ l) q
theorem Runs.det {r : Rd} {l l' : List It} {q q' : Option Rd} (h : Runs Z r l q) : Runs Z r l' q' → l = l' ∧ q = q' := by
  induction h generalizing l' q' with
  | stop h => intro k; cases k with
    | stop => exact ⟨rfl, rfl⟩
    | tear h' => rw [h] at h'; cases h'
    | step h' _ => rw [h] at h'; cases h'
  | tear h => intro k; cases k with
    | stop h' => rw [h] at h'; cases h'
    | tear => exact ⟨rfl, rfl⟩
    | step h' _ => rw [h] at h'; cases h'
  | step h _ ih => intro k; cases k with
    | stop h' => rw [h] at h'; cases h'
    | tear h' => rw [h] at h'; cases h'
    | step h' k' =>
      rw [h] at h'
      cases h'
      obtain ⟨rfl, rfl⟩ := ih k'
      exact ⟨rfl, rfl⟩

theorem td_app {b c : Bs} {i n : Nat} (h : i + n ≤ b.length) : ((b ++ c).drop i).take n = (b.drop i).take n := by
  rw [List.drop_append_of_le_length (by omega), List.take_append_of_le_length (by simp; omega)]
theorem t_app {b c : Bs} {n : Nat} (h : n ≤ b.length) : (b ++ c).take n = b.take n := List.take_append_of_le_length h
def Fr.sure : Fr → Prop
  | .wait => False
  | _ => True
theorem frontItem_app {items : Nat} {ahead b c : Bs} {k : UInt8} (h : (frontItem Z items ahead k b).sure) : frontItem Z items ahead k (b ++ c) = frontItem Z items ahead k b := by
  by_cases h1 : holdsN (kint k) < 0 ∨ 4096 ≤ items
  · unfold frontItem; rw [if_pos h1, if_pos h1]
  unfold frontItem at h ⊢
  rw [if_neg h1] at h ⊢
  rw [if_neg h1]
  by_cases h2 : b.length < 5
  · rw [if_pos h2] at h; exact h.elim
  rw [if_neg h2] at h
  have e2 : ¬ (b ++ c).length < 5 := by simp; omega
  rw [if_neg h2, if_neg e2, td_app (i := 1) (n := 2) (by omega), td_app (i := 3) (n := 2) (by omega)]
  generalize numL ((b.drop 1).take 2) = n at h ⊢
  generalize numL ((b.drop 3).take 2) = n' at h ⊢
  by_cases h3 : ¬ (n + n' = 65535 ∧ 1 ≤ n ∧ n ≤ 4096)
  · rw [if_pos h3, if_pos h3]
  rw [if_neg h3] at h
  rw [if_neg h3, if_neg h3]
  by_cases h4 : b.length < 5 + n
  · rw [if_pos h4] at h; exact h.elim
  rw [if_neg h4] at h
  have e4 : ¬ (b ++ c).length < 5 + n := by simp; omega
  rw [if_neg h4, if_neg e4, td_app (i := 5) (n := n) (by omega)]
  by_cases h5 : Z.ok ((b.drop 5).take n) ahead = false
  · rw [if_pos h5, if_pos h5]
  rw [if_neg h5] at h
  rw [if_neg h5, if_neg h5]
  by_cases h6 : b.length < 13 + n
  · rw [if_pos h6] at h; exact h.elim
  rw [if_neg h6] at h
  have e6 : ¬ (b ++ c).length < 13 + n := by simp; omega
  rw [if_neg h6, if_neg e6, td_app (i := 5 + n) (n := 4) (by omega), td_app (i := 9 + n) (n := 4) (by omega)]
  generalize numL ((b.drop (5 + n)).take 4) = m at h ⊢
  generalize numL ((b.drop (9 + n)).take 4) = m' at h ⊢
  by_cases h7 : ¬ (m + m' = 4294967295 ∧ (m : Int) ≤ holdsN (kint k))
  · rw [if_pos h7, if_pos h7]
  rw [if_neg h7] at h
  rw [if_neg h7, if_neg h7]
  by_cases h8 : b.length < 21 + n + m
  · rw [if_pos h8] at h; exact h.elim
  have e8 : ¬ (b ++ c).length < 21 + n + m := by simp; omega
  rw [if_neg h8, if_neg e8, td_app (i := 13 + n + m) (n := 8) (by omega), t_app (n := 13 + n + m) (by omega), td_app (i := 13 + n) (n := m) (by omega)]
theorem frontEnd_app {items sum : Nat} {b c : Bs} (h : (frontEnd Z items sum b).sure) : frontEnd Z items sum (b ++ c) = frontEnd Z items sum b := by
  unfold frontEnd at h ⊢
  by_cases h0 : 5 ≤ b.length
  · rw [td_app (i := 1) (n := 4) (by omega)]
    have e0 : 5 ≤ (b ++ c).length := by simp; omega
    simp only [h0, e0, true_and] at h ⊢
    by_cases h1 : numL ((b.drop 1).take 4) ≠ items
    · rw [if_pos h1, if_pos h1]
    rw [if_neg h1] at h
    rw [if_neg h1, if_neg h1]
    by_cases h2 : b.length < 13
    · rw [if_pos h2] at h; exact h.elim
    have e2 : ¬ (b ++ c).length < 13 := by simp; omega
    rw [if_neg h2, if_neg e2, td_app (i := 5) (n := 8) (by omega), t_app (n := 5) (by omega)]
  · rw [if_neg (by omega), if_pos (by omega)] at h
    exact h.elim
theorem front_app {items sum : Nat} {ahead b c : Bs} (h : (front Z items ahead sum b).sure) : front Z items ahead sum (b ++ c) = front Z items ahead sum b := by
  cases b with
  | nil => exact h.elim
  | cons k r =>
    change (if k = 255 then frontEnd Z items sum (k :: r) else frontItem Z items ahead k (k :: r)).sure at h
    show (if k = 255 then frontEnd Z items sum (k :: r ++ c) else frontItem Z items ahead k (k :: r ++ c)) = (if k = 255 then frontEnd Z items sum (k :: r) else frontItem Z items ahead k (k :: r))
    by_cases hk : k = 255
    · rw [if_pos hk] at h
      rw [if_pos hk, if_pos hk, frontEnd_app Z h]
    · rw [if_neg hk] at h
      rw [if_neg hk, if_neg hk, frontItem_app Z h]
theorem frontItem_len {items : Nat} {ahead b : Bs} {k : UInt8} {n : Nat} {x : It} (h : frontItem Z items ahead k b = .item n x) : 21 ≤ n ∧ n ≤ b.length := by
  unfold frontItem at h
  repeat' split at h
  all_goals first | (cases h; done) | (injection h with h1 h2; omega)
theorem front_len {items sum : Nat} {ahead b : Bs} {n : Nat} {x : It} (h : front Z items ahead sum b = .item n x) : 21 ≤ n ∧ n ≤ b.length := by
  cases b with
  | nil => cases h
  | cons k r =>
    change (if k = 255 then frontEnd Z items sum (k :: r) else frontItem Z items ahead k (k :: r)) = _ at h
    split at h
    · unfold frontEnd at h
      repeat' split at h
      all_goals cases h
    · exact frontItem_len Z h
theorem front_fin_len {items sum : Nat} {ahead b : Bs} (h : front Z items ahead sum b = .fin) : 13 ≤ b.length := by
  cases b with
  | nil => cases h
  | cons k r =>
    change (if k = 255 then frontEnd Z items sum (k :: r) else frontItem Z items ahead k (k :: r)) = _ at h
    split at h
    · unfold frontEnd at h
      repeat' split at h
      all_goals first | (cases h; done) | omega
    · unfold frontItem at h
      repeat' split at h
      all_goals cases h
theorem head_app {b c : Bs} (h : headOk b = false) : headOk (b ++ c) = false := by
  unfold headOk at h ⊢
  rw [beq_eq_false_iff_ne] at h ⊢
  intro e
  apply h
  by_cases hl : 4 ≤ b.length
  · rw [t_app hl] at e
    rw [e, List.take_of_length_le (by simp [headB]; omega), List.take_of_length_le (by simp [headB]; omega)]
  · have := congrArg (List.take b.length) e
    rw [List.take_take, List.take_take, Nat.min_eq_left (by omega), t_app (Nat.le_refl _), Nat.min_eq_left (by simp)] at this
    rw [List.take_of_length_le (by omega)]
    rwa [List.take_length] at this
theorem head_app4 {b c : Bs} (h : 4 ≤ b.length) : headOk (b ++ c) = headOk b := by
  unfold headOk
  rw [t_app h, List.take_of_length_le (l := headB) (by simp [headB]; omega), List.take_of_length_le (l := headB) (by simp [headB]; omega)]
theorem stp_tear_app {r : Rd} (c : Bs) (h : stp Z r = .tear) : stp Z (r.on c) = .tear := by
  obtain ⟨b, sum, begun, items, ahead, done⟩ := r
  change stp Z ⟨b ++ c, sum, begun, items, ahead, done⟩ = .tear
  unfold stp at h ⊢
  cases begun with
  | false =>
    simp only [if_true] at h ⊢
    by_cases hh : headOk b = true
    · rw [if_pos hh] at h
      split at h <;> cases h
    · have := head_app (c := c) (b := b) (by simpa using hh)
      rw [if_neg (by simp [this])]
  | true =>
    simp only [Bool.true_eq_false, if_false] at h ⊢
    cases done with
    | true =>
      simp only [if_true] at h ⊢
      split at h
      · cases h
      · rename_i hb; rw [if_neg (by simp [hb])]
    | false =>
      simp only [Bool.false_eq_true, if_false] at h ⊢
      split at h
      · rename_i hf; rw [front_app Z (by rw [hf]; trivial), hf]
      all_goals cases h
theorem stp_go_app {r r' : Rd} {o : Option It} (c : Bs) (h : stp Z r = .go o r') : stp Z (r.on c) = .go o (r'.on c) := by
  obtain ⟨b, sum, begun, items, ahead, done⟩ := r
  change stp Z ⟨b ++ c, sum, begun, items, ahead, done⟩ = .go o (r'.on c)
  unfold stp at h ⊢
  cases begun with
  | false =>
    simp only [if_true] at h ⊢
    split at h
    · rename_i hh
      split at h
      · rename_i hl
        rw [head_app4 hl, hh, if_pos rfl, if_pos (by simp; omega), t_app hl, List.drop_append_of_le_length hl]
        cases h
        rfl
      · cases h
    · cases h
  | true =>
    simp only [Bool.true_eq_false, if_false] at h ⊢
    cases done with
    | true =>
      simp only [if_true] at h
      split at h <;> cases h
    | false =>
      simp only [Bool.false_eq_true, if_false] at h ⊢
      split at h
      · cases h
      · cases h
      · rename_i n x hf
        have hl := front_len Z hf
        rw [front_app Z (by rw [hf]; trivial), hf]
        cases h
        simp only
        rw [t_app (by omega), List.drop_append_of_le_length (by omega)]
        rfl
      · rename_i hf
        have hl := front_fin_len Z hf
        rw [front_app Z (by rw [hf]; trivial), hf]
        cases h
        simp only
        rw [t_app (by omega), List.drop_append_of_le_length (by omega)]
        rfl
theorem runs_tear_app {r : Rd} {l : List It} (c : Bs) (h : Runs Z r l none) : Runs Z (r.on c) l none := by
  generalize hq : (none : Option Rd) = q at h
  induction h with
  | stop h => cases hq
  | tear h => exact .tear (stp_tear_app Z c h)
  | step h _ ih => exact .step (stp_go_app Z c h) (ih hq)
theorem runs_app {r r1 : Rd} {l l2 : List It} {q2 : Option Rd} (c : Bs) (h : Runs Z r l (some r1)) (h2 : Runs Z (r1.on c) l2 q2) : Runs Z (r.on c) (l ++ l2) q2 := by
  generalize hq : some r1 = q at h
  induction h with
  | stop h => cases hq; exact h2
  | tear h => cases hq
  | step h _ ih => rw [List.append_assoc]; exact .step (stp_go_app Z c h) (ih hq)
theorem runs_stopped {r r1 : Rd} {l : List It} (h : Runs Z r l (some r1)) : stp Z r1 = .stop := by
  generalize hq : some r1 = q at h
  induction h with
  | stop h => cases hq; exact h
  | tear h => cases hq
  | step h _ ih => exact ih hq
end
end Go.Proofs.YtcpnnkkfndgpjaaDoor
