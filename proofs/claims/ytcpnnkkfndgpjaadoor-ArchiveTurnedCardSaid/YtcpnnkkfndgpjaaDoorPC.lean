/- Trees as bytes, plainly: one byte turned; pieces; what the laws ask of Write and of the reader. -/
import Derived.Test.YtcpnnkkfndgpjaaDoorPB
namespace Go.Proofs.YtcpnnkkfndgpjaaDoor

theorem flat_split : ∀ {L : List Bs} {p s : Bs} {c : UInt8}, L.flatten = p ++ c :: s → ∃ L1 u v L2, L = L1 ++ (u ++ c :: v) :: L2 ∧ p = L1.flatten ++ u ∧ s = v ++ L2.flatten
  | [], p, s, c, h => by simp at h
  | x :: L, p, s, c, h => by
    rw [List.flatten_cons, List.append_eq_append_iff] at h
    rcases h with ⟨a, h1, h2⟩ | ⟨a, h1, h2⟩
    · obtain ⟨L1, u, v, L2, h3, h4, h5⟩ := flat_split h2
      exact ⟨x :: L1, u, v, L2, by rw [h3]; rfl, by rw [h1, h4]; simp, h5⟩
    · cases a with
      | nil =>
        rw [List.nil_append] at h2
        obtain ⟨L1, u, v, L2, h3, h4, h5⟩ := flat_split (p := []) (s := s) (c := c) (L := L) h2.symm
        exact ⟨x :: L1, u, v, L2, by rw [h3]; rfl, by rw [List.append_nil] at h1; rw [List.flatten_cons, List.append_assoc, ← h4, List.append_nil]; exact h1.symm, h5⟩
      | cons d a =>
        rw [List.cons_append] at h2
        injection h2 with h6 h7
        subst h6
        exact ⟨[], p, a, L, by rw [h1]; rfl, by simp, h7⟩
theorem num_turn {u v : Bs} {c d : UInt8} (h : c ≠ d) : numL (u ++ c :: v) ≠ numL (u ++ d :: v) := by
  intro e
  have := numL_inj (by simp) e
  simp at this
  exact h this
theorem len_turn {u v : Bs} (c d : UInt8) : (u ++ c :: v).length = (u ++ d :: v).length := by simp
section
variable (Z : Sp)
/-- An item's bytes with one of them another one: wrong at once. -/
theorem enc_turned {items sum : Nat} {ahead R p s : Bs} {x : It} {c d : UInt8} (hv : verdict Z ahead x = 0) (hi : items ≤ 4096) (he : enc Z x = p ++ c :: s) (hcd : c ≠ d) :
    front Z items ahead sum (p ++ d :: s ++ R) = .bad := by
  obtain ⟨h1, h2, h3⟩ := verdict_zero Z hv
  obtain ⟨h4, h5⟩ := Z.ok_len _ _ h3
  obtain ⟨h6, h7⟩ := kinds_byte (Int.le_trans (by omega) h2)
  have a1 : numL (beN 2 x.path.length) = x.path.length := numL_be (by omega)
  have a2 : numL (beN 2 (65535 - x.path.length)) = 65535 - x.path.length := numL_be (by omega)
  have a3 : numL (beN 4 x.data.length) = x.data.length := numL_be (by omega)
  have a4 : numL (beN 4 (4294967295 - x.data.length)) = 4294967295 - x.data.length := numL_be (by omega)
  have l1 := beN_len 2 x.path.length
  have l2 := beN_len 2 (65535 - x.path.length)
  have l3 := beN_len 4 x.data.length
  have l4 := beN_len 4 (4294967295 - x.data.length)
  have l5 := beN_len 8 (sumB Z (bodyB x))
  have a5 : numL (beN 8 (sumB Z (bodyB x))) = sumB Z (bodyB x) := numL_be (sumB_lt _)
  have hbody : bodyB x = kbyte x.kind :: (beN 2 x.path.length ++ beN 2 (65535 - x.path.length) ++ x.path ++ beN 4 x.data.length ++ beN 4 (4294967295 - x.data.length) ++ x.data) := rfl
  have hflat : [[kbyte x.kind], beN 2 x.path.length, beN 2 (65535 - x.path.length), x.path, beN 4 x.data.length, beN 4 (4294967295 - x.data.length), x.data, beN 8 (sumB Z (bodyB x))].flatten = p ++ c :: s := by
    rw [← he]; simp [enc, bodyB]
  obtain ⟨L1, u, v, L2, hL, hp, hs⟩ := flat_split hflat
  generalize beN 2 x.path.length = A at *
  generalize beN 2 (65535 - x.path.length) = A' at *
  generalize beN 4 x.data.length = M at *
  generalize beN 4 (4294967295 - x.data.length) = M' at *
  generalize hSS : sumB Z (bodyB x) = SS at *
  generalize beN 8 SS = S at *
  have hSlt : SS < 18446744073709551616 := by rw [← hSS]; exact sumB_lt _
  have hff : fnv0 < 18446744073709551616 := by decide
  rcases L1 with _ | ⟨y1, _ | ⟨y2, _ | ⟨y3, _ | ⟨y4, _ | ⟨y5, _ | ⟨y6, _ | ⟨y7, _ | ⟨y8, L1⟩⟩⟩⟩⟩⟩⟩⟩
  · -- the kind
    simp only [List.nil_append, List.cons.injEq] at hL
    obtain ⟨e1, rfl⟩ := hL
    cases u with
    | cons u1 u => simp at e1
    | nil =>
      simp only [List.nil_append, List.cons.injEq] at e1
      obtain ⟨e1, rfl⟩ := e1
      have eq : p ++ d :: s ++ R = d :: (A ++ (A' ++ (x.path ++ (M ++ (M' ++ (x.data ++ (S ++ R))))))) := by rw [hp, hs]; simp
      rw [eq]
      show (if d = 255 then _ else _) = Fr.bad
      by_cases hd : d = 255
      · subst hd
        rw [if_pos rfl]
        have s1 : ((255 :: (A ++ (A' ++ (x.path ++ (M ++ (M' ++ (x.data ++ (S ++ R)))))))).drop 1).take 4 = A ++ A' := slk (Y := []) (Z := x.path ++ (M ++ (M' ++ (x.data ++ (S ++ R))))) (by simp) rfl (by simp [l1, l2])
        unfold frontEnd
        rw [s1, if_pos]
        refine ⟨by simp; omega, ?_⟩
        have hn : numL (A ++ A') = numL A * 256 ^ A'.length + numL A' := by
          have h1 : numL (A ++ A') = numA (numL A) A' := by unfold numL numA; rw [List.foldl_append]
          rw [h1, numA_eq]
        rw [hn, l2, a1, a2]
        omega
      · rw [if_neg hd, fi_eval Z l1 l2 a1.symm l3 l4 a3.symm l5, a1, a2, a3, a4]
        split
        · rfl
        split
        · rfl
        split
        · rfl
        split
        · rfl
        rw [if_pos]
        rw [a5, ← hSS, hbody, e1]
        exact fun e => fnv_turn hff [] _ hcd e
  · -- the path's length
    simp only [List.cons_append, List.nil_append, List.cons.injEq] at hL
    obtain ⟨rfl, e1, rfl⟩ := hL
    have eq : p ++ d :: s ++ R = kbyte x.kind :: ((u ++ d :: v) ++ (A' ++ (x.path ++ (M ++ (M' ++ (x.data ++ (S ++ R))))))) := by rw [hp, hs]; simp
    rw [eq]
    show (if kbyte x.kind = 255 then _ else _) = Fr.bad
    rw [if_neg h6]
    refine fi_bad1 Z (by rw [len_turn d c, ← e1, l1]) l2 ?_
    have := num_turn (u := u) (v := v) hcd
    rw [← e1, a1] at this
    rw [a2]
    omega
  · -- that length again
    simp only [List.cons_append, List.nil_append, List.cons.injEq] at hL
    obtain ⟨rfl, rfl, e1, rfl⟩ := hL
    have eq : p ++ d :: s ++ R = kbyte x.kind :: (A ++ ((u ++ d :: v) ++ (x.path ++ (M ++ (M' ++ (x.data ++ (S ++ R))))))) := by rw [hp, hs]; simp
    rw [eq]
    show (if kbyte x.kind = 255 then _ else _) = Fr.bad
    rw [if_neg h6]
    refine fi_bad1 Z l1 (by rw [len_turn d c, ← e1, l2]) ?_
    have := num_turn (u := u) (v := v) hcd
    rw [← e1, a2] at this
    rw [a1]
    omega
  · -- the path
    simp only [List.cons_append, List.nil_append, List.cons.injEq] at hL
    obtain ⟨rfl, rfl, rfl, e1, rfl⟩ := hL
    have eq : p ++ d :: s ++ R = kbyte x.kind :: (A ++ (A' ++ ((u ++ d :: v) ++ (M ++ (M' ++ (x.data ++ (S ++ R))))))) := by rw [hp, hs]; simp
    rw [eq]
    show (if kbyte x.kind = 255 then _ else _) = Fr.bad
    rw [if_neg h6, fi_eval Z l1 l2 (by rw [len_turn d c, ← e1, a1]) l3 l4 a3.symm l5]
    split
    · rfl
    split
    · rfl
    split
    · rfl
    split
    · rfl
    rw [if_pos]
    rw [a5, ← hSS, hbody, e1]
    intro e
    refine fnv_turn (Z := Z) hff (kbyte x.kind :: (A ++ A' ++ u)) (v ++ M ++ M' ++ x.data) hcd ?_
    unfold sumB at e
    simpa using e
  · -- the data's length
    simp only [List.cons_append, List.nil_append, List.cons.injEq] at hL
    obtain ⟨rfl, rfl, rfl, rfl, e1, rfl⟩ := hL
    have eq : p ++ d :: s ++ R = kbyte x.kind :: (A ++ (A' ++ (x.path ++ ((u ++ d :: v) ++ (M' ++ (x.data ++ (S ++ R))))))) := by rw [hp, hs]; simp
    rw [eq]
    show (if kbyte x.kind = 255 then _ else _) = Fr.bad
    rw [if_neg h6, fi_eval2 Z l1 l2 a1.symm (by rw [len_turn d c, ← e1, l3]) l4]
    split
    · rfl
    split
    · rfl
    split
    · rfl
    rw [if_pos]
    have := num_turn (u := u) (v := v) hcd
    rw [← e1, a3] at this
    rw [a4]
    omega
  · -- that length again
    simp only [List.cons_append, List.nil_append, List.cons.injEq] at hL
    obtain ⟨rfl, rfl, rfl, rfl, rfl, e1, rfl⟩ := hL
    have eq : p ++ d :: s ++ R = kbyte x.kind :: (A ++ (A' ++ (x.path ++ (M ++ ((u ++ d :: v) ++ (x.data ++ (S ++ R))))))) := by rw [hp, hs]; simp
    rw [eq]
    show (if kbyte x.kind = 255 then _ else _) = Fr.bad
    rw [if_neg h6, fi_eval2 Z l1 l2 a1.symm l3 (by rw [len_turn d c, ← e1, l4])]
    split
    · rfl
    split
    · rfl
    split
    · rfl
    rw [if_pos]
    have := num_turn (u := u) (v := v) hcd
    rw [← e1, a4] at this
    rw [a3]
    omega
  · -- the data
    simp only [List.cons_append, List.nil_append, List.cons.injEq] at hL
    obtain ⟨rfl, rfl, rfl, rfl, rfl, rfl, e1, rfl⟩ := hL
    have eq : p ++ d :: s ++ R = kbyte x.kind :: (A ++ (A' ++ (x.path ++ (M ++ (M' ++ ((u ++ d :: v) ++ (S ++ R))))))) := by rw [hp, hs]; simp
    rw [eq]
    show (if kbyte x.kind = 255 then _ else _) = Fr.bad
    rw [if_neg h6, fi_eval Z l1 l2 a1.symm l3 l4 (by rw [len_turn d c, ← e1, a3]) l5]
    split
    · rfl
    split
    · rfl
    split
    · rfl
    split
    · rfl
    rw [if_pos]
    rw [a5, ← hSS, hbody, e1]
    intro e
    refine fnv_turn (Z := Z) hff (kbyte x.kind :: (A ++ A' ++ x.path ++ M ++ M' ++ u)) v hcd ?_
    unfold sumB at e
    simpa using e
  · -- the sum
    simp only [List.cons_append, List.nil_append, List.cons.injEq] at hL
    obtain ⟨rfl, rfl, rfl, rfl, rfl, rfl, rfl, e1, rfl⟩ := hL
    have eq : p ++ d :: s ++ R = kbyte x.kind :: (A ++ (A' ++ (x.path ++ (M ++ (M' ++ (x.data ++ ((u ++ d :: v) ++ R))))))) := by rw [hp, hs]; simp
    rw [eq]
    show (if kbyte x.kind = 255 then _ else _) = Fr.bad
    rw [if_neg h6, fi_eval Z l1 l2 a1.symm l3 l4 a3.symm (by rw [len_turn d c, ← e1, l5])]
    split
    · rfl
    split
    · rfl
    split
    · rfl
    split
    · rfl
    rw [if_pos]
    have := num_turn (u := u) (v := v) hcd
    rw [← e1, a5] at this
    rw [← hbody, hSS]
    exact fun e => this e.symm
  · have := congrArg List.length hL
    simp at this
theorem front_255 {items sum : Nat} {ahead r : Bs} : front Z items ahead sum (255 :: r) = frontEnd Z items sum (255 :: r) := by
  show (if (255 : UInt8) = 255 then frontEnd Z items sum (255 :: r) else frontItem Z items ahead 255 (255 :: r)) = _
  rw [if_pos rfl]
/-- The end with a byte turned. -/
theorem tail_turned {items sum : Nat} {ahead p s : Bs} {c d : UInt8} (hs : sum < 18446744073709551616) (hi : items ≤ 4096) (he : tailB Z items sum = p ++ c :: s) (hcd : c ≠ d) :
    front Z items ahead sum (p ++ d :: s) = .bad := by
  have l1 := beN_len 4 items
  have l2 := beN_len 8 (fnv Z sum (endB items))
  have hlt := fnv_lt (Z := Z) (endB items) sum hs
  have a1 : numL (beN 4 items) = items := numL_be (by omega)
  have a2 : numL (beN 8 (fnv Z sum (endB items))) = fnv Z sum (endB items) := numL_be hlt
  have hflat : [[255], beN 4 items, beN 8 (fnv Z sum (endB items))].flatten = p ++ c :: s := by rw [← he]; simp [tailB, endB]
  obtain ⟨L1, u, v, L2, hL, hp, hss⟩ := flat_split hflat
  have hend : endB items = 255 :: beN 4 items := rfl
  rcases L1 with _ | ⟨y1, _ | ⟨y2, _ | ⟨y3, L1⟩⟩⟩
  · simp only [List.nil_append, List.cons.injEq] at hL
    obtain ⟨e1, rfl⟩ := hL
    cases u with
    | cons u1 u => simp at e1
    | nil =>
      simp only [List.nil_append, List.cons.injEq] at e1
      obtain ⟨e1, rfl⟩ := e1
      have hd : d ≠ 255 := fun e => hcd (by rw [e, ← e1])
      have hbe : beN 4 items = [UInt8.ofNat (items / 256 ^ 3), UInt8.ofNat (items / 256 ^ 2)] ++ ([UInt8.ofNat (items / 256 ^ 1), UInt8.ofNat (items / 256 ^ 0)] ++ []) := rfl
      have eq : p ++ d :: s = d :: ([UInt8.ofNat (items / 256 ^ 3), UInt8.ofNat (items / 256 ^ 2)] ++ ([UInt8.ofNat (items / 256 ^ 1), UInt8.ofNat (items / 256 ^ 0)] ++ beN 8 (fnv Z sum (endB items)))) := by rw [hp, hss, hbe]; simp
      rw [eq]
      show (if d = 255 then _ else _) = Fr.bad
      rw [if_neg hd]
      refine fi_bad1 Z rfl rfl ?_
      have : numL [UInt8.ofNat (items / 256 ^ 3), UInt8.ofNat (items / 256 ^ 2)] = 0 := by
        rw [show items / 256 ^ 3 = 0 from Nat.div_eq_of_lt (by omega), show items / 256 ^ 2 = 0 from Nat.div_eq_of_lt (by omega)]
        rfl
      rw [this]
      omega
  · simp only [List.cons_append, List.nil_append, List.cons.injEq] at hL
    obtain ⟨rfl, e1, rfl⟩ := hL
    have eq : p ++ d :: s = 255 :: ((u ++ d :: v) ++ beN 8 (fnv Z sum (endB items))) := by rw [hp, hss]; simp
    rw [eq]
    rw [front_255]
    have hl : (u ++ d :: v).length = 4 := by rw [len_turn d c, ← e1, l1]
    have s1 : ((255 :: ((u ++ d :: v) ++ beN 8 (fnv Z sum (endB items)))).drop 1).take 4 = u ++ d :: v := slk (Y := []) rfl rfl hl.symm
    unfold frontEnd
    rw [s1, if_pos]
    refine ⟨by rw [List.length_cons, List.length_append, l2]; omega, ?_⟩
    have := num_turn (u := u) (v := v) hcd
    rw [← e1, a1] at this
    exact fun e => this e.symm
  · simp only [List.cons_append, List.nil_append, List.cons.injEq] at hL
    obtain ⟨rfl, rfl, e1, rfl⟩ := hL
    have hl : (u ++ d :: v).length = 8 := by rw [len_turn d c, ← e1, l2]
    have eq : p ++ d :: s = 255 :: (beN 4 items ++ ((u ++ d :: v) ++ [])) := by rw [hp, hss]; simp
    rw [eq]
    rw [front_255]
    have s1 : ((255 :: (beN 4 items ++ ((u ++ d :: v) ++ []))).drop 1).take 4 = beN 4 items := slk (Y := []) rfl rfl l1.symm
    have s2 : ((255 :: (beN 4 items ++ ((u ++ d :: v) ++ []))).drop 5).take 8 = u ++ d :: v := slk (Y := beN 4 items) rfl (by rw [l1]) hl.symm
    have s3 : (255 :: (beN 4 items ++ ((u ++ d :: v) ++ []))).take 5 = endB items := by
      show 255 :: (beN 4 items ++ ((u ++ d :: v) ++ [])).take 4 = _
      rw [List.take_left' l1]; rfl
    unfold frontEnd
    rw [s1, s2, s3, a1, if_neg (fun h => h.2 rfl)]
    split
    · rename_i h; simp [l1] at h; simp at hl; omega
    · rw [if_pos]
      have := num_turn (u := u) (v := v) hcd
      rw [← e1, a2] at this
      exact fun e => this e.symm
  · have := congrArg List.length hL
    simp at this
theorem runs_turned : ∀ (l : List It) (r : Rd) (i : Nat) (p s : Bs) (c d : UInt8), r.begun = true → r.done = false → r.items + l.length ≤ 4096 → r.sum < 18446744073709551616 → badAt Z r.ahead i l = none →
    encs Z l ++ tailB Z (r.items + l.length) (fnv Z r.sum (encs Z l)) = p ++ c :: s → c ≠ d → r.b = p ++ d :: s → ∃ l1 l2, l = l1 ++ l2 ∧ Runs Z r l1 none
  | [], r, i, p, s, c, d, hb, hd, hi, hs, _, he, hcd, hr => by
    refine ⟨[], [], rfl, .tear ?_⟩
    have hf : front Z r.items r.ahead r.sum r.b = .bad := by
      rw [hr]
      exact tail_turned Z hs (by simpa using hi) (by simpa [encs, fnv] using he) hcd
    unfold stp
    rw [if_neg (by simp [hb]), if_neg (by simp [hd]), hf]
  | x :: l, r, i, p, s, c, d, hb, hd, hi, hs, hv, he, hcd, hr => by
    unfold badAt at hv
    split at hv
    · rename_i hv0
      have hi' : r.items < 4096 := by simp at hi; omega
      rw [encs_cons, List.append_assoc, List.append_eq_append_iff] at he
      have tear : ∀ {q R : Bs}, enc Z x = p ++ c :: q → r.b = p ++ d :: q ++ R → ∃ l1 l2, x :: l = l1 ++ l2 ∧ Runs Z r l1 none := by
        intro q R e1 e2
        refine ⟨[], x :: l, rfl, .tear ?_⟩
        have hf : front Z r.items r.ahead r.sum r.b = .bad := by
          rw [e2]
          exact enc_turned Z hv0 (by omega) e1 hcd
        unfold stp
        rw [if_neg (by simp [hb]), if_neg (by simp [hd]), hf]
      have later : ∀ {a : Bs}, p = enc Z x ++ a → encs Z l ++ tailB Z (r.items + (x :: l).length) (fnv Z r.sum (enc Z x ++ encs Z l)) = a ++ c :: s → ∃ l1 l2, x :: l = l1 ++ l2 ∧ Runs Z r l1 none := by
        intro a h1 h2
        have e1 : r.items + (x :: l).length = r.items + 1 + l.length := by simp; omega
        have hrb : r.b = enc Z x ++ (a ++ d :: s) := by rw [hr, h1, List.append_assoc]
        have hdr : r.b.drop (enc Z x).length = a ++ d :: s := by rw [hrb, List.drop_left' rfl]
        have htk : r.b.take (enc Z x).length = enc Z x := by rw [hrb, List.take_left' rfl]
        obtain ⟨l1, l2, i1, i2⟩ := runs_turned l { r with b := r.b.drop (enc Z x).length, sum := fnv Z r.sum (r.b.take (enc Z x).length), items := r.items + 1, ahead := x.path } (i + 1) a s c d hb hd (by show r.items + 1 + l.length ≤ 4096; rw [← e1]; exact hi) (fnv_lt _ _ hs) hv
          (by show encs Z l ++ tailB Z (r.items + 1 + l.length) (fnv Z (fnv Z r.sum (r.b.take (enc Z x).length)) (encs Z l)) = _; rw [htk, ← fnv_append, ← e1]; exact h2) hcd hdr
        refine ⟨x :: l1, l2, by rw [i1]; rfl, ?_⟩
        have hf : front Z r.items r.ahead r.sum r.b = .item (enc Z x).length x := by rw [hrb]; exact front_enc Z hv0 hi'
        have hstp : stp Z r = .go (some x) { r with b := r.b.drop (enc Z x).length, sum := fnv Z r.sum (r.b.take (enc Z x).length), items := r.items + 1, ahead := x.path } := by
          unfold stp
          rw [if_neg (by simp [hb]), if_neg (by simp [hd]), hf]
        exact .step (o := some x) hstp i2
      rcases he with ⟨a, h1, h2⟩ | ⟨a, h1, h2⟩
      · exact later h1 h2
      · cases a with
        | nil => rw [List.append_nil] at h1; exact later (a := []) (by rw [h1, List.append_nil]) (by simpa using h2.symm)
        | cons y a =>
          rw [List.cons_append] at h2
          injection h2 with h3 h4
          subst h3
          exact tear (R := encs Z l ++ tailB Z (r.items + (x :: l).length) (fnv Z r.sum (enc Z x ++ encs Z l))) h1 (by rw [hr, h4, List.append_assoc]; rfl)
    · cases hv
end
end Go.Proofs.YtcpnnkkfndgpjaaDoor
