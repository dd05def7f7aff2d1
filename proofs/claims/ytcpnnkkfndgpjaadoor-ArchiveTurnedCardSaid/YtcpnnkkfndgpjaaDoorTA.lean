/- Does a name hold a stroke or a zero byte: strings.ContainsAny with these two, of every name. -/
import Derived.Test.YtcpnnkkfndgpjaaDoorJ
import Derived.Test.YtcpnnkkfndgpjaaDoorBase
import Derived.Test.YtcpnnkkfndgpjaaDoorChecked
import Derived.Laws.Runes
import Derived.Laws.RangeAny
import Derived.Laws.Strings3
import Derived.Lib.IndexAny
import Derived.Lib.IndexBytes
import Derived.Lib.Builder
namespace Go.Proofs.YtcpnnkkfndgpjaaDoor
open Go.RowKit

theorem ret_bool {a b : Bool} (h : a = b) : Ending.returned (.bool a) = .returned (.bool b) := by rw [h]
def slz : ByteArray := ⟨#[47, 0]⟩
theorem valid_same (c : Int) : Lib.validRune c = Utf8.valid c := by
  unfold Lib.validRune Utf8.valid
  rw [Bool.eq_iff_iff]
  simp
  omega
set_option maxRecDepth 100000 in
set_option maxHeartbeats 1000000 in
theorem rune_high (c : Int) (w : World) (h : 128 ≤ c) :
    Calls Tryd.prog 70 #[.string slz, .int .i32 c] w fun e w' => ∃ z : Int, z < 0 ∧ e = .returned (.int .i64 z) ∧ Ext w w' := by
  have e2 : slz.size = 2 := rfl
  have h1 : decide (c < 128) = false := decide_eq_false (by omega)
  have h0 : 0 ≤ c := by omega
  by_cases hE : c = 65533
  · subst hE
    go_enter Tryd.func70, Tryd.ntmps70
    go_wp2_with fail
    go_loopg [5, 6] 2 (fun g _ _ wx => ∃ i : Nat, i + g = 2 ∧ wx = w.iter slz i)
    case atStart => exact ⟨0, rfl, rfl⟩
    case round =>
      obtain ⟨i, hig, rfl⟩ := hrel
      cases gk with
      | zero =>
        obtain rfl : i = 2 := by omega
        have hnx := fun ty => run_next_end (P := Tryd.prog) w slz 2 ty (by decide)
        go_wp2_with fail
        go_ret
        exact ⟨-1, by decide, rfl, (Ext.refl _).alloc _⟩
      | succ g =>
        have hi2 : i = 0 ∨ i = 1 := by omega
        rcases hi2 with rfl | rfl
        · have hnx := fun ty => run_next_ascii (P := Tryd.prog) w slz 0 ty (by decide) (by decide)
          have e0 : (slz[0]'(by decide)).toNat = 47 := rfl
          rw [e0] at hnx
          go_wp2_with fail
          go_roundg g
          case measure => omega
          case rel => exact ⟨1, by omega, rfl⟩
        · have hnx := fun ty => run_next_ascii (P := Tryd.prog) w slz 1 ty (by decide) (by decide)
          have e0 : (slz[1]'(by decide)).toNat = 0 := rfl
          rw [e0] at hnx
          go_wp2_with fail
          go_roundg g
          case measure => omega
          case rel => exact ⟨2, by omega, rfl⟩
  have hE' : (c == 65533) = false := beq_eq_false_iff_ne.2 hE
  cases hv : Utf8.valid c with
  | false =>
    go_enter Tryd.func70, Tryd.ntmps70
    go_wp2_with (go_at_call 81; refine (Tryd.utf8_ValidRune _ _).mono ?_; rintro e w' ⟨rfl, rfl⟩; rw [valid_same, hv])
    go_ret
    exact ⟨-1, by decide, rfl, Ext.refl _⟩
  | true =>
    obtain ⟨f1, f2, f3⟩ := encode_facts c hv h
    obtain ⟨rs, hrs⟩ : ∃ rs, Utf8.encode c = rs := ⟨_, rfl⟩
    rw [hrs] at f1 f2
    have F3 : Hid (∀ h : rs.size - 1 < rs.size, 128 ≤ (rs[rs.size - 1]'h).toNat) := Lib.hid (by subst hrs; exact f3)
    clear f3
    by_cases h2 : rs.size = 2
    · obtain ⟨b, hb⟩ : ∃ b : UInt8, rs[1]'(by omega) = b := ⟨_, rfl⟩
      have b128 : 128 ≤ b.toNat := by rw [← hb]; have := F3.out (by omega); simpa [h2] using this
      clear f1 f2
      go_enter Tryd.func70, Tryd.ntmps70
      go_wp2_with (go_at_call 81; refine (Tryd.utf8_ValidRune _ _).mono ?_; rintro e w' ⟨rfl, rfl⟩; rw [valid_same, hv])
      go_step3
      go_wp2_with fail
      refine wp_loop_rounds 1 ?_
      rw [rounds_succ]
      go_wp2_with fail
      have s1 : (slz[1]'(by decide)).toNat = 0 := rfl
      have hsb : ((0 : Int) == (b.toNat : Int)) = false := beq_eq_false_iff_ne.2 (by omega)
      go_step3
      repeat (refine wp_seq ?_)
      refine region_lin (fun _ => True) 100000 [(0, 3), (1, 3), (2, 3), (3, 3), (4, 3), (5, 3), (6, 3)] ?_ (by kernel_rfl) (by kernel_rfl) ?_ (fun _ _ _ _ _ h => h) (trivial) ?_
      rotate_left
      (simp only [planOps, List.mapM_cons, List.mapM_nil, List.getElem?_toArray, List.getElem?_cons_zero, List.getElem?_cons_succ, Option.map_some, Option.bind_eq_bind, Option.bind_some, Option.pure_def]; rfl)
      intro wd hwd hxd
      repeat (first | (refine lin_take ?_ (by rfl) (fun wx hx => ?_) ?_; rotate_left; go_simp; (with_reducible rfl); try simp only [Act.put, List.setIfInBounds_toArray, List.set_cons_zero, List.set_cons_succ]) | (refine lin_skip (by rfl) ?_; try simp only [Act.put, List.setIfInBounds_toArray, List.set_cons_zero, List.set_cons_succ]) | (refine lin_take3 ?_ (by rfl) (fun wx hx => ?_) ?_; rotate_left; go_simp; (with_reducible rfl); try simp only [Act.put, List.setIfInBounds_toArray, List.set_cons_zero, List.set_cons_succ]))
      refine lin_nil ?_
      go_wp2_with fail
      have hmiss : Lib.indexByte (slz.extract 2 2).data.toList b = -1 := by
        have e : (slz.extract 2 2).data.toList = [] := by decide
        rw [e]; rfl
      have w2 : IntKind.i64.wrap 2 = 2 := by decide
      have hbb : ((b.toNat : Int)).toNat.toUInt8 = b := by simp
      refine region_lin (fun _ => True) 100000 [(0, 3), (1, 3), (2, 3), (3, 3), (4, 3), (5, 3), (6, 3), (7, 1), (8, 3)] ?_ (by kernel_rfl) (by kernel_rfl) ?_ (fun _ _ _ _ _ h => h) (trivial) ?_
      rotate_left
      (simp only [planOps, List.mapM_cons, List.mapM_nil, List.getElem?_toArray, List.getElem?_cons_zero, List.getElem?_cons_succ, Option.map_some, Option.bind_eq_bind, Option.bind_some, Option.pure_def]; rfl)
      intro wd hwd hxd
      repeat (first | (refine lin_take ?_ (by rfl) (fun wx hx => ?_) ?_; rotate_left; go_simp; (with_reducible rfl); try simp only [Act.put, List.setIfInBounds_toArray, List.set_cons_zero, List.set_cons_succ]) | (refine lin_skip (by rfl) ?_; try simp only [Act.put, List.setIfInBounds_toArray, List.set_cons_zero, List.set_cons_succ]) | (refine lin_take3 ?_ (by rfl) (fun wx hx => ?_) ?_; rotate_left; go_simp; (with_reducible rfl); try simp only [Act.put, List.setIfInBounds_toArray, List.set_cons_zero, List.set_cons_succ]))
      refine lin_run (by rfl) (fun K hK => ?_)
      go_simp
      refine (Tryd.strings_IndexByte _ _ _).mono ?_
      rintro e w1 ⟨rfl, rfl⟩
      rw [hbb]
      refine hK _ _ trivial ?_
      clear hK
      try simp only [Act.put, List.setIfInBounds_toArray, List.set_cons_zero, List.set_cons_succ]
      repeat (first | (refine lin_take ?_ (by rfl) (fun wx hx => ?_) ?_; rotate_left; go_simp; (with_reducible rfl); try simp only [Act.put, List.setIfInBounds_toArray, List.set_cons_zero, List.set_cons_succ]) | (refine lin_skip (by rfl) ?_; try simp only [Act.put, List.setIfInBounds_toArray, List.set_cons_zero, List.set_cons_succ]) | (refine lin_take3 ?_ (by rfl) (fun wx hx => ?_) ?_; rotate_left; go_simp; (with_reducible rfl); try simp only [Act.put, List.setIfInBounds_toArray, List.set_cons_zero, List.set_cons_succ]))
      refine lin_nil ?_
      go_wp2_with fail
      rw [Exit.noGoto_ret]
      simp only [go_sem]
      go_ret
      exact ⟨-1, by decide, rfl, by repeat (first | assumption | exact Ext.refl _ | exact Mod.refl _ _ | refine Ext.trans ?_ (by assumption) | apply Ext.alloc | apply Ext.drew | apply Ext.drewN)⟩
    · have h3 : 3 ≤ (rs.size : Int) := by omega
      have f2' : (rs.size : Int) ≤ 4 := by omega
      clear f1 f2 h2
      go_enter Tryd.func70, Tryd.ntmps70
      go_wp2_with (go_at_call 81; refine (Tryd.utf8_ValidRune _ _).mono ?_; rintro e w' ⟨rfl, rfl⟩; rw [valid_same, hv])
      go_step3
      go_wp2_with fail
      refine wp_loop_rounds 1 ?_
      rw [rounds_succ]
      go_wp2_with fail
      rw [Exit.noGoto_ret]
      go_ret
      exact ⟨-1, by decide, rfl, Ext.refl _⟩
theorem decode_skip (s : ByteArray) (i : Nat) (h : i < s.size) (ha : 128 ≤ (s[i]'h).toNat) : i + (Utf8.decode s i).2 ≤ s.size ∧ ∀ k, (hk : k < s.size) → i ≤ k → k < i + (Utf8.decode s i).2 → 128 ≤ (s[k]'hk).toNat := by
  have hn : ¬ (s[i]'h).toNat < 128 := by omega
  have hg : ∀ k, (hk : i + k < s.size) → (s.get! (i + k)).toNat / 64 = 2 → 128 ≤ (s[i + k]'hk).toNat := by
    intro k hk h2
    have e : s.get! (i + k) = s[i + k]'hk := get_at s (i + k) hk
    rw [e] at h2
    omega
  have one : ∀ k, (hk : k < s.size) → i ≤ k → k < i + 1 → 128 ≤ (s[k]'hk).toNat := by
    intro k hk h1 h2
    obtain rfl : k = i := by omega
    exact ha
  simp only [Utf8.decode, get_at s i h, hn, if_false]
  split
  · rename_i h1
    simp only [Bool.and_eq_true, decide_eq_true_eq, beq_iff_eq] at h1
    split
    · refine ⟨by simp only; omega, fun k hk h2 h3 => ?_⟩
      simp only at h3
      rcases (by omega : k = i ∨ k = i + 1) with rfl | rfl
      · exact ha
      · exact hg 1 hk h1.2.2
    · exact ⟨by simp only; omega, fun k hk h2 h3 => one k hk h2 (by simpa using h3)⟩
  · split
    · rename_i h1
      simp only [Bool.and_eq_true, decide_eq_true_eq, beq_iff_eq] at h1
      split
      · refine ⟨by simp only; omega, fun k hk h2 h3 => ?_⟩
        simp only at h3
        rcases (by omega : k = i ∨ k = i + 1 ∨ k = i + 2) with rfl | rfl | rfl
        · exact ha
        · exact hg 1 hk h1.1.2.2
        · exact hg 2 hk h1.2.2
      · exact ⟨by simp only; omega, fun k hk h2 h3 => one k hk h2 (by simpa using h3)⟩
    · split
      · rename_i h1
        simp only [Bool.and_eq_true, decide_eq_true_eq, beq_iff_eq] at h1
        split
        · refine ⟨by simp only; omega, fun k hk h2 h3 => ?_⟩
          simp only at h3
          rcases (by omega : k = i ∨ k = i + 1 ∨ k = i + 2 ∨ k = i + 3) with rfl | rfl | rfl | rfl
          · exact ha
          · exact hg 1 hk h1.1.1.2.2
          · exact hg 2 hk h1.1.2.2
          · exact hg 3 hk h1.2.2
        · exact ⟨by simp only; omega, fun k hk h2 h3 => one k hk h2 (by simpa using h3)⟩
      · exact ⟨by simp only; omega, fun k hk h2 h3 => one k hk h2 (by simpa using h3)⟩
/-- Is a stroke or a zero byte among them? -/
def badB (c : UInt8) : Bool := c == 47 || c == 0
def noBad (l : List UInt8) (i : Nat) : Prop := ∀ k c, k < i → l[k]? = some c → badB c = false
theorem rune_low (c : Int) (w : World) (h0 : 0 ≤ c) (h1 : c < 128) : Calls Tryd.prog 70 #[.string slz, .int .i32 c] w fun e w' => ∃ z : Int, (0 ≤ z ↔ badB c.toNat.toUInt8 = true) ∧ e = .returned (.int .i64 z) ∧ Ext w w' := by
  refine (Tryd.strings_IndexRune_ascii slz c w h0 h1).mono ?_
  rintro e w' ⟨rfl, rfl⟩
  refine ⟨_, ?_, rfl, Ext.refl _⟩
  have := Lib.contains_iff_indexByte slz.data.toList c.toNat.toUInt8
  rw [← decide_eq_true_iff (p := 0 ≤ Lib.indexByte slz.data.toList c.toNat.toUInt8), ← this]
  simp [slz, badB]
theorem bytes_at (s : ByteArray) (i : Nat) (h : i < s.size) : s.data.toList[i]? = some (s[i]'h) := by
  have : i < s.data.toList.length := by simpa using h
  rw [List.getElem?_eq_getElem this]
  rfl
/-- The iterator in block b stands at another place. -/
def itSet (w : World) (b : Nat) (s : ByteArray) (p : Nat) : World := { w with heap := w.heap.setIfInBounds b (.stringIter s p) }
theorem next_at (w : World) (b : Nat) (s : ByteArray) (pos : Nat) (ty : TypeId) (hb : w.heap[b]? = some (.stringIter s pos)) (h : pos < s.size) :
    (Instr.next (.pointer (some ⟨b, 0, none⟩)) true ty).run Tryd.prog w = .ok (.tuple #[.bool true, .int .i64 pos, .int .i32 (Utf8.decode s pos).1]) (itSet w b s (pos + (Utf8.decode s pos).2)) := by
  simp only [Instr.next, getObj, setObj, Sem.run_bind, Sem.run, hb, Result.andThen, h, if_true]
  simp [goInt, itSet]
theorem next_stop (w : World) (b : Nat) (s : ByteArray) (pos : Nat) (ty : TypeId) (hb : w.heap[b]? = some (.stringIter s pos)) (h : ¬ pos < s.size) :
    (Instr.next (.pointer (some ⟨b, 0, none⟩)) true ty).run Tryd.prog w = .ok (.tuple #[.bool false]) w := by
  simp [Instr.next, getObj, Sem.run, hb, h]
theorem itSet_at {w : World} {b : Nat} {s : ByteArray} {p q : Nat} (hb : w.heap[b]? = some (.stringIter s p)) : (itSet w b s q).heap[b]? = some (.stringIter s q) := by
  have := (Array.getElem?_eq_some_iff.1 hb).1
  simp [itSet, this]
theorem itSet_ext {w0 w : World} {b : Nat} {s : ByteArray} {q : Nat} (hx : Ext w0 w) (hb : w0.heap.size ≤ b) : Ext w0 (itSet w b s q) :=
  ⟨hx.os, hx.tape, hx.output, by simpa [itSet] using hx.size, fun k hk _ => by
    show (w.heap.setIfInBounds b _)[k]? = _
    rw [Array.getElem?_setIfInBounds_ne (by omega)]
    exact hx.block k hk (fun f => f)⟩
set_option maxRecDepth 100000 in
set_option maxHeartbeats 2000000 in
theorem indexAny_short (s : ByteArray) (w : World) (h8 : s.size ≤ 8) :
    Calls Tryd.prog 64 #[.string s, .string slz] w fun e w' => ∃ z : Int, (0 ≤ z ↔ s.data.toList.any badB = true) ∧ e = .returned (.int .i64 z) ∧ Ext w w' := by
  have e2 : slz.size = 2 := rfl
  have h8z : decide ((8 : Int) < (s.size : Int)) = false := decide_eq_false (by omega)
  have hne : slz.toList = [47, 0] := by rw [Lib.toList_data]; rfl
  go_enter Tryd.func64, Tryd.ntmps64
  go_wp2_with (go_at_call 71; refine (Tryd.strings_shouldUseASCIISet _ _).mono ?_; rintro e w' ⟨rfl, rfl⟩; rw [h8z])
  go_loopg [9, 10] s.size (fun g _ _ wx => ∃ i : Nat, i ≤ s.size ∧ s.size ≤ i + g ∧ wx.heap[w'.heap.size]? = some (.stringIter s i) ∧ Ext w' wx ∧ noBad s.data.toList i)
  case atStart => exact ⟨0, by omega, by omega, World.iter_heap _ _ _, (Ext.refl _).alloc _, fun k c h => absurd h (by omega)⟩
  case round =>
    obtain ⟨i, hi0, hig, hit, hxw, hno⟩ := hrel
    have HN := Lib.hid hno
    have HI := Lib.hid hit
    have HX := Lib.hid hxw
    by_cases hi : i < s.size
    · obtain ⟨g, rfl⟩ : ∃ g, gk = g + 1 := ⟨gk - 1, by omega⟩
      obtain ⟨x, hx⟩ : ∃ x : UInt8, s[i]'hi = x := ⟨_, rfl⟩
      have Hx : Hid (s.data.toList[i]? = some x) := Lib.hid (by rw [bytes_at s i hi, hx])
      have hnx := fun ty => next_at _ w'.heap.size s i ty hit hi
      clear hno hit hxw
      by_cases hx128 : x.toNat < 128
      · have hdec : Utf8.decode s i = (x.toNat, 1) := by rw [decode_ascii s i hi (by rw [hx]; exact hx128), hx]
        have hback : ((x.toNat : Int)).toNat.toUInt8 = x := by simp
        rw [hdec] at hnx
        simp only at hnx
        clear hdec
        go_wp2_with (go_at_call 70; refine (rune_low _ _ (by omega) (by omega)).mono ?_; rintro e w1 ⟨z, hz, rfl, hx1⟩; rw [hback] at hz; have HZ := Lib.hid hz; clear hz)
        · have Hyes : Hid (s.data.toList.any badB = true) := Lib.hid (List.any_eq_true.2 ⟨x, List.mem_of_getElem? Hx.out, HZ.out.1 (by assumption)⟩)
          go_ret
          exact ⟨i, by rw [Hyes.out]; simp, rfl, (itSet_ext HX.out (Nat.le_refl _)).trans hx1⟩
        · have hnb : badB x = false := by
            cases hb : badB x with
            | false => rfl
            | true => exact absurd (HZ.out.2 hb) (by omega)
          go_roundg g
          case measure => omega
          case rel =>
            exact ⟨i + 1, by omega, by omega, (hx1.block _ (by have := (Array.getElem?_eq_some_iff.1 (itSet_at (q := i + 1) HI.out)).1; exact this) (fun f => f)).trans (itSet_at HI.out), (itSet_ext HX.out (Nat.le_refl _)).trans hx1, fun k c hk hc => by
              rcases Nat.lt_or_ge k i with h | h
              · exact HN.out k c h hc
              · obtain rfl : k = i := by omega
                rw [Hx.out] at hc
                cases hc
                exact hnb⟩
      · have hd := decode_high s i hi (by rw [hx]; omega)
        have hsk := decode_skip s i hi (by rw [hx]; omega)
        obtain ⟨⟨r, wd⟩, hrw⟩ : ∃ p, Utf8.decode s i = p := ⟨_, rfl⟩
        rw [hrw] at hd hsk hnx
        simp only at hd hsk hnx
        have HSk := Lib.hid hsk.2
        obtain ⟨hd1, hd2⟩ := hd
        have hsk1 := hsk.1
        clear hsk hrw
        go_wp2_with (go_at_call 70; refine (rune_high _ _ (by omega)).mono ?_; rintro e w1 ⟨z, hz, rfl, hx1⟩)
        go_roundg g
        case measure => omega
        case rel =>
          exact ⟨i + wd, by omega, by omega, (hx1.block _ (by have := (Array.getElem?_eq_some_iff.1 (itSet_at (q := i + wd) HI.out)).1; exact this) (fun f => f)).trans (itSet_at HI.out), (itSet_ext HX.out (Nat.le_refl _)).trans hx1, fun k c hk hc => by
            rcases Nat.lt_or_ge k i with h | h
            · exact HN.out k c h hc
            · have hks : k < s.size := by omega
              have := HSk.out k hks h hk
              rw [bytes_at s k hks] at hc
              cases hc
              unfold badB
              have h1 : (s[k] == 47) = false := beq_eq_false_iff_ne.2 (fun e => by rw [e] at this; exact absurd this (by decide))
              have h2 : (s[k] == 0) = false := beq_eq_false_iff_ne.2 (fun e => by rw [e] at this; exact absurd this (by decide))
              rw [h1, h2]; rfl⟩
    · have hnx := fun ty => next_stop _ w'.heap.size s i ty hit hi
      have Hno : Hid (s.data.toList.any badB = false) := Lib.hid (by
        rw [List.any_eq_false]
        intro c hc
        obtain ⟨k, hk⟩ := List.mem_iff_getElem?.1 hc
        have := (List.getElem?_eq_some_iff.1 hk).1
        rw [hno k c (by simp at this; omega) hk]
        simp)
      clear hno hit hxw
      go_wp2_with fail
      go_ret
      exact ⟨-1, by rw [Hno.out]; simp, rfl, HX.out⟩
theorem any_indexAny (l : List UInt8) : 0 ≤ Lib.indexAny l slz.data.toList ↔ l.any badB = true := by
  have e : ∀ c : UInt8, slz.data.toList.contains c = badB c := fun c => by
    show (c == 47 || (c == 0 || false)) = _
    unfold badB
    rw [Bool.or_false]
  constructor
  · intro h
    cases ha : l.any badB with
    | true => rfl
    | false =>
      rw [List.any_eq_false] at ha
      have := Lib.indexAny_none (s := l) (chars := slz.data.toList) (fun j b _ hb => by rw [e]; have := ha b (List.mem_of_getElem? hb); simpa using this)
      omega
  · intro h
    have hne : Lib.indexAny l slz.data.toList ≠ -1 := by
      intro e1
      obtain ⟨x, hx, hb⟩ := List.any_eq_true.1 h
      have : ∀ (l : List UInt8), x ∈ l → 0 ≤ Lib.indexAny l slz.data.toList := by
        intro l
        induction l with
        | nil => intro h; cases h
        | cons c l ih =>
          intro h
          unfold Lib.indexAny
          split
          · decide
          · rename_i hc
            rcases List.mem_cons.1 h with rfl | h
            · rw [e] at hc; exact absurd hb hc
            · have := ih h
              split
              · rename_i h1; rw [beq_iff_eq] at h1; omega
              · omega
      have := this l hx
      omega
    have := Lib.indexAny_ge slz.data.toList l
    omega
set_option maxRecDepth 100000 in
theorem containsAny_slz (s : ByteArray) (w : World) (hs : s.size ≤ 5000) :
    Calls Tryd.prog 58 #[.string s, .string slz] w fun e w' => e = .returned (.bool (s.data.toList.any badB)) ∧ Ext w w' := by
  have c : Calls Tryd.prog 64 #[.string s, .string slz] w fun e w' => ∃ z : Int, (0 ≤ z ↔ s.data.toList.any badB = true) ∧ e = .returned (.int .i64 z) ∧ Ext w w' := by
    by_cases h8 : s.size ≤ 8
    · exact indexAny_short s w h8
    · refine (Tryd.strings_IndexAny_long (fun w => by kernel_rfl) s slz w (by decide) (by omega) (by omega) (by decide) (fun j b hj => by
        rcases j with _ | _ | j
        · cases hj; decide
        · cases hj; decide
        · cases hj)).mono ?_
      rintro e w' ⟨rfl, rfl⟩
      exact ⟨_, any_indexAny _, rfl, ((Ext.refl _).alloc _).alloc _⟩
  have HC := Lib.hid c
  clear c
  go_enter Tryd.func58, Tryd.ntmps58
  go_wp2_with fail
  refine HC.out.mono ?_
  rintro e w1 ⟨z, hz, rfl, hx⟩
  have HZ : Hid (decide (0 ≤ z) = s.data.toList.any badB) := Lib.hid (by rw [Bool.eq_iff_iff, ← hz]; simp)
  clear hz
  go_wp2_with fail
  go_ret
  exact ⟨ret_bool HZ.out, hx⟩
end Go.Proofs.YtcpnnkkfndgpjaaDoor
