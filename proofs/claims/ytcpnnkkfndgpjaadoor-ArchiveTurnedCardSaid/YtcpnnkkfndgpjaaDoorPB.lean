/- Trees as bytes, plainly: what was written is read again; what is done was written; a byte turned. -/
import Derived.Test.YtcpnnkkfndgpjaaDoorPA
namespace Go.Proofs.YtcpnnkkfndgpjaaDoor

theorem slk {b' Y X Z : Bs} {k : UInt8} {i n : Nat} (hb : b' = Y ++ (X ++ Z)) (hi : i = Y.length + 1) (hn : n = X.length) : ((k :: b').drop i).take n = X := by
  subst hb hi hn; simp
section
variable (Z : Sp)
theorem fi_bad1 {items : Nat} {ahead : Bs} {k : UInt8} {A A' X : Bs} (hA : A.length = 2) (hA' : A'.length = 2) (h : ¬ (numL A + numL A' = 65535 ∧ 1 ≤ numL A ∧ numL A ≤ 4096)) :
    frontItem Z items ahead k (k :: (A ++ (A' ++ X))) = .bad := by
  have s1 : ((k :: (A ++ (A' ++ X))).drop 1).take 2 = A := slk (Y := []) rfl rfl hA.symm
  have s2 : ((k :: (A ++ (A' ++ X))).drop 3).take 2 = A' := slk (Y := A) rfl (by simp [hA]) hA'.symm
  unfold frontItem
  rw [s1, s2]
  by_cases h1 : holdsN (kint k) < 0 ∨ 4096 ≤ items
  · rw [if_pos h1]
  · rw [if_neg h1, if_neg (by simp; omega), if_pos h]
theorem fi_eval2 {items : Nat} {ahead : Bs} {k : UInt8} {A A' P M M' X : Bs} (hA : A.length = 2) (hA' : A'.length = 2) (hP : P.length = numL A) (hM : M.length = 4) (hM' : M'.length = 4) :
    frontItem Z items ahead k (k :: (A ++ (A' ++ (P ++ (M ++ (M' ++ X)))))) =
      if holdsN (kint k) < 0 ∨ 4096 ≤ items then .bad
      else if ¬ (numL A + numL A' = 65535 ∧ 1 ≤ numL A ∧ numL A ≤ 4096) then .bad
      else if Z.ok P ahead = false then .bad
      else if ¬ (numL M + numL M' = 4294967295 ∧ (numL M : Int) ≤ holdsN (kint k)) then .bad
      else if (k :: (A ++ (A' ++ (P ++ (M ++ (M' ++ X)))))).length < 21 + numL A + numL M then .wait
      else if numL (((k :: (A ++ (A' ++ (P ++ (M ++ (M' ++ X)))))).drop (13 + numL A + numL M)).take 8) ≠ sumB Z ((k :: (A ++ (A' ++ (P ++ (M ++ (M' ++ X)))))).take (13 + numL A + numL M)) then .bad
      else .item (21 + numL A + numL M) ⟨P, kint k, ((k :: (A ++ (A' ++ (P ++ (M ++ (M' ++ X)))))).drop (13 + numL A)).take (numL M)⟩ := by
  have s1 : ((k :: (A ++ (A' ++ (P ++ (M ++ (M' ++ X)))))).drop 1).take 2 = A := slk (Y := []) rfl rfl hA.symm
  have s2 : ((k :: (A ++ (A' ++ (P ++ (M ++ (M' ++ X)))))).drop 3).take 2 = A' := slk (Y := A) rfl (by simp [hA]) hA'.symm
  have s3 : ((k :: (A ++ (A' ++ (P ++ (M ++ (M' ++ X)))))).drop 5).take (numL A) = P := slk (Y := A ++ A') (Z := M ++ (M' ++ X)) (by simp) (by simp [hA, hA']) hP.symm
  have s4 : ((k :: (A ++ (A' ++ (P ++ (M ++ (M' ++ X)))))).drop (5 + numL A)).take 4 = M := slk (Y := A ++ A' ++ P) (Z := M' ++ X) (by simp) (by simp [hA, hA', hP]; omega) hM.symm
  have s5 : ((k :: (A ++ (A' ++ (P ++ (M ++ (M' ++ X)))))).drop (9 + numL A)).take 4 = M' := slk (Y := A ++ A' ++ P ++ M) (Z := X) (by simp) (by simp [hA, hA', hP, hM]; omega) hM'.symm
  unfold frontItem
  rw [s1, s2, s3, s4, s5]
  by_cases h1 : holdsN (kint k) < 0 ∨ 4096 ≤ items
  · rw [if_pos h1, if_pos h1]
  rw [if_neg h1, if_neg h1, if_neg (by simp; omega)]
  by_cases h2 : ¬ (numL A + numL A' = 65535 ∧ 1 ≤ numL A ∧ numL A ≤ 4096)
  · rw [if_pos h2, if_pos h2]
  rw [if_neg h2, if_neg h2, if_neg (by simp; omega)]
  by_cases h3 : Z.ok P ahead = false
  · rw [if_pos h3, if_pos h3]
  rw [if_neg h3, if_neg h3, if_neg (by simp; omega)]
theorem fi_eval {items : Nat} {ahead : Bs} {k : UInt8} {A A' P M M' D S R : Bs} (hA : A.length = 2) (hA' : A'.length = 2) (hP : P.length = numL A) (hM : M.length = 4) (hM' : M'.length = 4) (hD : D.length = numL M) (hS : S.length = 8) :
    frontItem Z items ahead k (k :: (A ++ (A' ++ (P ++ (M ++ (M' ++ (D ++ (S ++ R)))))))) =
      if holdsN (kint k) < 0 ∨ 4096 ≤ items then .bad
      else if ¬ (numL A + numL A' = 65535 ∧ 1 ≤ numL A ∧ numL A ≤ 4096) then .bad
      else if Z.ok P ahead = false then .bad
      else if ¬ (numL M + numL M' = 4294967295 ∧ (numL M : Int) ≤ holdsN (kint k)) then .bad
      else if numL S ≠ sumB Z (k :: (A ++ A' ++ P ++ M ++ M' ++ D)) then .bad
      else .item (21 + numL A + numL M) ⟨P, kint k, D⟩ := by
  have s1 : ((k :: (A ++ (A' ++ (P ++ (M ++ (M' ++ (D ++ (S ++ R)))))))).drop (13 + numL A + numL M)).take 8 = S := slk (Y := A ++ A' ++ P ++ M ++ M' ++ D) (Z := R) (by simp) (by simp [hA, hA', hP, hM, hM', hD]; omega) hS.symm
  have s2 : ((k :: (A ++ (A' ++ (P ++ (M ++ (M' ++ (D ++ (S ++ R)))))))).drop (13 + numL A)).take (numL M) = D := slk (Y := A ++ A' ++ P ++ M ++ M') (Z := S ++ R) (by simp) (by simp [hA, hA', hP, hM, hM']; omega) hD.symm
  rw [fi_eval2 Z hA hA' hP hM hM', s1, s2]
  have ht : (k :: (A ++ (A' ++ (P ++ (M ++ (M' ++ (D ++ (S ++ R)))))))).take (13 + numL A + numL M) = k :: (A ++ A' ++ P ++ M ++ M' ++ D) := by
    have e : k :: (A ++ (A' ++ (P ++ (M ++ (M' ++ (D ++ (S ++ R))))))) = (k :: (A ++ A' ++ P ++ M ++ M' ++ D)) ++ (S ++ R) := by simp
    rw [e, List.take_left' (by simp [hA, hA', hP, hM, hM', hD]; omega)]
  rw [ht]
  have hl : ¬ (k :: (A ++ (A' ++ (P ++ (M ++ (M' ++ (D ++ (S ++ R)))))))).length < 21 + numL A + numL M := by simp [hA, hA', hP, hM, hM', hD, hS]; omega
  rw [if_neg hl]

theorem verdict_zero {ahead : Bs} {x : It} (h : verdict Z ahead x = 0) : x.data.length ≤ 4194304 ∧ (x.data.length : Int) ≤ holdsN x.kind ∧ Z.ok x.path ahead = true := by
  unfold verdict at h
  split at h
  · cases h
  · split at h
    · cases h
    · rename_i h1 h2
      refine ⟨by omega, by omega, ?_⟩
      cases hk : Z.ok x.path ahead with
      | true => rfl
      | false => exact absurd (.inr hk) h2
theorem holds_kinds {k : Int} (h : 0 ≤ holdsN k) : k = 0 ∨ k = 1 ∨ k = 2 ∨ k = 4 := by
  unfold holdsN at h
  split at h
  · omega
  · split at h
    · omega
    · omega
theorem kinds_byte {k : Int} (h : 0 ≤ holdsN k) : kbyte k ≠ 255 ∧ kint (kbyte k) = k := by
  rcases holds_kinds h with rfl | rfl | rfl | rfl <;> decide
theorem enc_eq (x : It) (R : Bs) : enc Z x ++ R = kbyte x.kind :: (beN 2 x.path.length ++ (beN 2 (65535 - x.path.length) ++ (x.path ++ (beN 4 x.data.length ++ (beN 4 (4294967295 - x.data.length) ++ (x.data ++ (beN 8 (sumB Z (bodyB x)) ++ R))))))) := by
  simp [enc, bodyB]
theorem enc_len (x : It) : (enc Z x).length = 21 + x.path.length + x.data.length := by
  simp [enc, bodyB, beN_len]; omega
theorem front_enc {items sum : Nat} {ahead R : Bs} {x : It} (hv : verdict Z ahead x = 0) (hi : items < 4096) : front Z items ahead sum (enc Z x ++ R) = .item (enc Z x).length x := by
  obtain ⟨h1, h2, h3⟩ := verdict_zero Z hv
  obtain ⟨h4, h5⟩ := Z.ok_len _ _ h3
  obtain ⟨h6, h7⟩ := kinds_byte (Int.le_trans (by omega) h2)
  have a1 : numL (beN 2 x.path.length) = x.path.length := numL_be (by omega)
  have a2 : numL (beN 2 (65535 - x.path.length)) = 65535 - x.path.length := numL_be (by omega)
  have a3 : numL (beN 4 x.data.length) = x.data.length := numL_be (by omega)
  have a4 : numL (beN 4 (4294967295 - x.data.length)) = 4294967295 - x.data.length := numL_be (by omega)
  rw [enc_eq]
  change (if kbyte x.kind = 255 then frontEnd Z items sum _ else frontItem Z items ahead (kbyte x.kind) _) = _
  rw [if_neg h6, fi_eval Z (beN_len _ _) (beN_len _ _) a1.symm (beN_len _ _) (beN_len _ _) a3.symm (beN_len _ _), a1, a2, a3, a4, h7, if_neg (by omega), if_neg (by omega), if_neg (by simp [h3]), if_neg (by omega)]
  have hs : numL (beN 8 (sumB Z (bodyB x))) = sumB Z (bodyB x) := numL_be (sumB_lt _)
  rw [hs]
  rw [if_neg (fun h => h rfl), enc_len]
theorem front_end {items sum : Nat} {ahead R : Bs} (hi : items ≤ 4096) : front Z items ahead sum (endB items ++ beN 8 (fnv Z sum (endB items)) ++ R) = .fin ∨ 18446744073709551616 ≤ fnv Z sum (endB items) := by
  by_cases hs : fnv Z sum (endB items) < 18446744073709551616
  · left
    have e : endB items ++ beN 8 (fnv Z sum (endB items)) ++ R = 255 :: (beN 4 items ++ (beN 8 (fnv Z sum (endB items)) ++ R)) := by simp [endB]
    rw [e]
    have s1 : ((255 :: (beN 4 items ++ (beN 8 (fnv Z sum (endB items)) ++ R))).drop 1).take 4 = beN 4 items := slk (Y := []) rfl rfl (beN_len _ _).symm
    have s2 : ((255 :: (beN 4 items ++ (beN 8 (fnv Z sum (endB items)) ++ R))).drop 5).take 8 = beN 8 (fnv Z sum (endB items)) := slk (Y := beN 4 items) rfl (by simp [beN_len]) (beN_len _ _).symm
    change (if (255 : UInt8) = 255 then frontEnd Z items sum (255 :: (beN 4 items ++ (beN 8 (fnv Z sum (endB items)) ++ R))) else frontItem Z items ahead 255 (255 :: (beN 4 items ++ (beN 8 (fnv Z sum (endB items)) ++ R)))) = _
    unfold frontEnd
    rw [if_pos rfl, s1, s2, numL_be (by omega), numL_be hs, if_neg (fun h => h.2 rfl), if_neg (by simp [beN_len]; omega)]
    have ht : (255 :: (beN 4 items ++ (beN 8 (fnv Z sum (endB items)) ++ R))).take 5 = endB items := by
      have e : (255 :: (beN 4 items ++ (beN 8 (fnv Z sum (endB items)) ++ R)) : Bs) = endB items ++ (beN 8 (fnv Z sum (endB items)) ++ R) := by simp [endB]
      rw [e, List.take_left' (by simp [endB, beN_len])]
    rw [ht, if_neg (fun h => h rfl)]
  · right; omega
theorem chain (b : Bs) (i n : Nat) : b.drop i = (b.drop i).take n ++ b.drop (i + n) := by
  rw [← List.drop_drop, List.take_append_drop]
theorem front_item {items sum : Nat} {ahead b : Bs} {n : Nat} {x : It} (h : front Z items ahead sum b = .item n x) :
    b.take n = enc Z x ∧ n = (enc Z x).length ∧ b = enc Z x ++ b.drop n ∧ verdict Z ahead x = 0 ∧ items < 4096 := by
  cases b with
  | nil => cases h
  | cons k r =>
    change (if k = 255 then frontEnd Z items sum (k :: r) else frontItem Z items ahead k (k :: r)) = _ at h
    split at h
    · unfold frontEnd at h
      repeat' split at h
      all_goals cases h
    · generalize hb : k :: r = b at h
      unfold frontItem at h
      split at h
      · cases h
      rename_i h1
      split at h
      · cases h
      rename_i h2
      split at h
      · cases h
      rename_i h3
      split at h
      · cases h
      rename_i h4
      split at h
      · cases h
      rename_i h5
      split at h
      · cases h
      rename_i h6
      split at h
      · cases h
      rename_i h7
      split at h
      · cases h
      rename_i h8
      split at h
      · cases h
      rename_i h9
      injection h with h10 h11
      have c1 := chain b 1 2
      have c2 := chain b 3 2
      have l1 : ((b.drop 1).take 2).length = 2 := by simp; omega
      have l2 : ((b.drop 3).take 2).length = 2 := by simp; omega
      generalize hA : (b.drop 1).take 2 = A at *
      generalize hA' : (b.drop 3).take 2 = A' at *
      generalize hn : numL A = n1 at *
      have c3 := chain b 5 n1
      have l3 : ((b.drop 5).take n1).length = n1 := by simp; omega
      generalize hP : (b.drop 5).take n1 = P at *
      have c4 := chain b (5 + n1) 4
      have l4 : ((b.drop (5 + n1)).take 4).length = 4 := by simp; omega
      rw [show 5 + n1 + 4 = 9 + n1 from by omega] at c4
      have c5 := chain b (9 + n1) 4
      have l5 : ((b.drop (9 + n1)).take 4).length = 4 := by simp; omega
      rw [show 9 + n1 + 4 = 13 + n1 from by omega] at c5
      generalize hM : (b.drop (5 + n1)).take 4 = M at *
      generalize hM' : (b.drop (9 + n1)).take 4 = M' at *
      generalize hm : numL M = m at *
      have c6 := chain b (13 + n1) m
      have l6 : ((b.drop (13 + n1)).take m).length = m := by simp; omega
      generalize hD : (b.drop (13 + n1)).take m = D at *
      have c7 := chain b (13 + n1 + m) 8
      have l7 : ((b.drop (13 + n1 + m)).take 8).length = 8 := by simp; omega
      rw [show 13 + n1 + m + 8 = 21 + n1 + m from by omega] at c7
      generalize hS : (b.drop (13 + n1 + m)).take 8 = S at *
      have eA : A = beN 2 n1 := be_num l1 hn
      have eA' : A' = beN 2 (65535 - n1) := be_num l2 (by omega)
      have eM : M = beN 4 m := be_num l4 hm
      have eM' : M' = beN 4 (4294967295 - m) := be_num l5 (by omega)
      have hb1 : b = k :: b.drop 1 := by rw [← hb]; rfl
      have ek : kbyte (kint k) = k := kbyte_kint k
      have ebody : bodyB x = k :: (A ++ A' ++ P ++ M ++ M' ++ D) := by
        rw [← h11]
        unfold bodyB
        simp only
        rw [ek, l3, l6, ← eA, ← eA', ← eM, ← eM']
      have eb : b = (k :: (A ++ A' ++ P ++ M ++ M' ++ D)) ++ (S ++ b.drop (21 + n1 + m)) := by
        conv => lhs; rw [hb1, c1, c2, c3, c4, c5, c6, c7]
        simp
      have et : b.take (13 + n1 + m) = bodyB x := by
        rw [ebody]
        conv => lhs; rw [eb]
        exact List.take_left' (by simp [l1, l2, l3, l4, l5, l6]; omega)
      have eS : S = beN 8 (sumB Z (bodyB x)) := be_num l7 (by rw [et] at h9; exact Classical.not_not.1 h9)
      have ee : enc Z x = (k :: (A ++ A' ++ P ++ M ++ M' ++ D)) ++ S := by unfold enc; rw [← eS, ebody]
      have en : n = (enc Z x).length := by rw [ee, ← h10]; simp [l1, l2, l3, l4, l5, l6, l7]; omega
      have ebx : b = enc Z x ++ b.drop n := by
        rw [ee, ← h10]
        conv => lhs; rw [eb]
        simp
      refine ⟨?_, en, ebx, ?_, by omega⟩
      · conv => lhs; rw [ebx, en]
        exact List.take_left' rfl
      · have hkh : holdsN (kint k) ≤ 4194304 := by unfold holdsN; (repeat' split) <;> omega
        have hx1 : x.data.length = m := by rw [← h11]; exact l6
        have hx2 : x.kind = kint k := by rw [← h11]
        have hx3 : x.path = P := by rw [← h11]
        unfold verdict
        rw [if_neg (by omega), if_neg]
        rw [hx1, hx2, hx3]
        rintro (e | e)
        · omega
        · exact h5 e
theorem front_fin {items sum : Nat} {ahead b : Bs} (h : front Z items ahead sum b = .fin) : b = endB items ++ (beN 8 (fnv Z sum (endB items)) ++ b.drop 13) ∧ b.take 5 = endB items := by
  cases b with
  | nil => cases h
  | cons k r =>
    change (if k = 255 then frontEnd Z items sum (k :: r) else frontItem Z items ahead k (k :: r)) = _ at h
    split at h
    · rename_i hk
      generalize hb : k :: r = b at h
      unfold frontEnd at h
      split at h
      · cases h
      rename_i h1
      split at h
      · cases h
      rename_i h2
      split at h
      · cases h
      rename_i h3
      have c1 := chain b 1 4
      have c2 := chain b 5 8
      have l1 : ((b.drop 1).take 4).length = 4 := by simp; omega
      have l2 : ((b.drop 5).take 8).length = 8 := by simp; omega
      have e1 : (b.drop 1).take 4 = beN 4 items := be_num l1 (Classical.not_not.1 (fun e => h1 ⟨by omega, e⟩))
      have hb1 : b = 255 :: b.drop 1 := by rw [← hb, hk]; rfl
      have e5 : b.take 5 = endB items := by
        conv => lhs; rw [hb1]
        show 255 :: (b.drop 1).take 4 = _
        rw [e1]
        rfl
      rw [e5] at h3
      have e2 : (b.drop 5).take 8 = beN 8 (fnv Z sum (endB items)) := be_num l2 (Classical.not_not.1 h3)
      refine ⟨?_, e5⟩
      conv => lhs; rw [hb1, c1, c2, e1, e2]
      simp [endB]
    · unfold frontItem at h
      repeat' split at h
      all_goals cases h

/-- The end of what is written, behind a sum. -/
def tailB (n sum : Nat) : Bs := endB n ++ beN 8 (fnv Z sum (endB n))
theorem allB_eq (l : List It) : allB Z l = headB ++ (encs Z l ++ tailB Z l.length (fnv Z (fnv Z fnv0 headB) (encs Z l))) := by
  unfold allB tailB sumB
  simp only [fnv_append, List.append_assoc]
theorem encs_cons (x : It) (l : List It) : encs Z (x :: l) = enc Z x ++ encs Z l := rfl
def Rd.goes (r : Rd) (x : It) : Rd := { r with b := r.b.drop (enc Z x).length, sum := fnv Z r.sum (enc Z x), items := r.items + 1, ahead := x.path }

theorem runs_done {r q : Rd} {l : List It} (h : Runs Z r l (some q)) (hq : q.done = true) (hb : r.begun = true) (hd : r.done = false) (hi : r.items ≤ 4096) : ∀ i : Nat,
    r.b = encs Z l ++ tailB Z (r.items + l.length) (fnv Z r.sum (encs Z l)) ∧ badAt Z r.ahead i l = none ∧ r.items + l.length ≤ 4096 := by
  generalize hqq : some q = qq at h
  revert hq hb hd hi
  induction h with
  | stop h => intro hq hb hd hi; cases hqq; rw [hd] at hq; cases hq
  | tear h => cases hqq
  | @step r r' o l q' h k ih =>
    intro hq hb hd hi i
    have ih := ih hqq hq
    unfold stp at h
    rw [if_neg (by simp [hb]), if_neg (by simp [hd])] at h
    split at h
    · cases h
    · cases h
    · rename_i n x hf
      obtain ⟨f1, f2, f3, f4, f5⟩ := front_item Z hf
      cases h
      obtain ⟨i1, i2, i3⟩ := ih hb hd (by show r.items + 1 ≤ 4096; omega) (i + 1)
      simp only at i1 i2 i3
      have e1 : r.items + ([x] ++ l).length = r.items + 1 + l.length := by simp; omega
      refine ⟨?_, ?_, ?_⟩
      · show r.b = encs Z (x :: l) ++ tailB Z (r.items + ([x] ++ l).length) (fnv Z r.sum (encs Z (x :: l)))
        rw [e1, encs_cons, fnv_append, List.append_assoc]
        conv => lhs; rw [f3, i1, f1]
      · show badAt Z r.ahead i (x :: l) = none
        unfold badAt
        rw [if_pos f4]
        exact i2
      · show r.items + ([x] ++ l).length ≤ 4096
        rw [e1]; exact i3
    · rename_i hf
      obtain ⟨f1, f2⟩ := front_fin Z hf
      cases h
      have hs : stp Z { r with b := r.b.drop 13, sum := fnv Z r.sum (r.b.take 5), done := true } = if r.b.drop 13 = [] then .stop else .tear := by
        unfold stp
        rw [if_neg (by simp [hb]), if_pos rfl]
      cases k with
      | stop h' =>
        rw [hs] at h'
        split at h'
        · rename_i he
          rw [he, List.append_nil] at f1
          refine ⟨?_, rfl, by simpa using hi⟩
          rw [f1]; rfl
        · cases h'
      | tear h' => cases hqq
      | step h' _ => rw [hs] at h'; split at h' <;> cases h'

theorem done_stop {r : Rd} (hb : r.begun = true) (hd : r.done = true) (h : r.b = []) : stp Z r = .stop := by
  unfold stp; rw [if_neg (by simp [hb]), if_pos hd, if_pos h]
theorem runs_back : ∀ (l : List It) (r : Rd) (i : Nat), r.begun = true → r.done = false → r.items + l.length ≤ 4096 → r.sum < 18446744073709551616 → badAt Z r.ahead i l = none →
    r.b = encs Z l ++ tailB Z (r.items + l.length) (fnv Z r.sum (encs Z l)) → ∃ q, Runs Z r l (some q) ∧ q.done = true ∧ q.begun = true ∧ q.b = []
  | [], r, i, hb, hd, hi, hs, _, he => by
    have hf : front Z r.items r.ahead r.sum r.b = .fin := by
      rw [he]
      have := front_end Z (items := r.items) (sum := r.sum) (ahead := r.ahead) (R := []) (by simpa using hi)
      rcases this with h | h
      · rw [← h]; simp [encs, tailB, fnv]
      · have := fnv_lt (Z := Z) (endB r.items) r.sum hs; omega
    have hl : r.b.drop 13 = [] := by
      rw [he]
      apply List.drop_eq_nil_of_le
      simp [encs, tailB, endB, beN_len]
    refine ⟨{ r with b := r.b.drop 13, sum := fnv Z r.sum (r.b.take 5), done := true }, ?_, rfl, hb, hl⟩
    have hstp : stp Z r = .go none { r with b := r.b.drop 13, sum := fnv Z r.sum (r.b.take 5), done := true } := by
      unfold stp
      rw [if_neg (by simp [hb]), if_neg (by simp [hd]), hf]
    exact .step (o := none) hstp (.stop (done_stop Z hb rfl hl))
  | x :: l, r, i, hb, hd, hi, hs, hv, he => by
    unfold badAt at hv
    split at hv
    · rename_i hv0
      have hi' : r.items < 4096 := by simp at hi; omega
      rw [encs_cons, List.append_assoc] at he
      have hf : front Z r.items r.ahead r.sum r.b = .item (enc Z x).length x := by rw [he]; exact front_enc Z hv0 hi'
      have hdr : r.b.drop (enc Z x).length = encs Z l ++ tailB Z (r.items + (x :: l).length) (fnv Z r.sum (enc Z x ++ encs Z l)) := by rw [he, List.drop_left' rfl]
      have htk : r.b.take (enc Z x).length = enc Z x := by rw [he, List.take_left' rfl]
      have e1 : r.items + (x :: l).length = r.items + 1 + l.length := by simp; omega
      obtain ⟨q, i1, i2, i3, i4⟩ := runs_back l { r with b := r.b.drop (enc Z x).length, sum := fnv Z r.sum (r.b.take (enc Z x).length), items := r.items + 1, ahead := x.path } (i + 1) hb hd (by show r.items + 1 + l.length ≤ 4096; rw [← e1]; exact hi) (fnv_lt _ _ hs) hv
        (by show r.b.drop (enc Z x).length = _; rw [hdr, htk, e1, fnv_append])
      refine ⟨q, ?_, i2, i3, i4⟩
      have hstp : stp Z r = .go (some x) { r with b := r.b.drop (enc Z x).length, sum := fnv Z r.sum (r.b.take (enc Z x).length), items := r.items + 1, ahead := x.path } := by
        unfold stp
        rw [if_neg (by simp [hb]), if_neg (by simp [hd]), hf]
      exact .step (o := some x) hstp i1
    · cases hv
end
end Go.Proofs.YtcpnnkkfndgpjaaDoor
