/- The statement ArchiveKnown walked. -/
import Derived.Test.YtcpnnkkfndgpjaaDoorGB
import Derived.Lib.SlBytesConst
import Derived.Laws.MakeOwn
namespace Go.Proofs.YtcpnnkkfndgpjaaDoor
open Go.RowKit

theorem verdict_ok {ahead : Bs} {x : It} (h1 : x.data.length ≤ 4194304) (h2 : (x.data.length : Int) ≤ holdsN x.kind) (h3 : okP x.path ahead = true) : verdict Sp.real ahead x = 0 := by
  unfold verdict
  rw [if_neg (by omega), if_neg]
  rintro (h | h)
  · omega
  · have : okP x.path ahead = false := h
    rw [h3] at this; cases this
theorem verdict_no {ahead : Bs} {x : It} (h1 : x.data.length ≤ 4194304) (h2 : holdsN x.kind < (x.data.length : Int) ∨ okP x.path ahead = false) : verdict Sp.real ahead x = 2 := by
  unfold verdict
  rw [if_neg (by omega), if_pos (show holdsN x.kind < (x.data.length : Int) ∨ Sp.real.ok x.path ahead = false from h2)]
theorem k_empty : writeN Sp.real [] = (allB Sp.real [], 0, 0) := writeN_of _ rfl (by decide)
theorem k_two : writeN Sp.real [⟨[98], 0, []⟩, ⟨[97], 0, []⟩] = ([], 2, 1) := by
  have v1 : verdict Sp.real [] ⟨[98], 0, []⟩ = 0 := verdict_ok (by decide) (by decide) (by decide +kernel)
  have v2 : verdict Sp.real [98] ⟨[97], 0, []⟩ = 2 := verdict_no (by decide) (.inr (by decide +kernel))
  unfold writeN badAt badAt
  rw [if_neg (by decide), if_pos v1]
  rw [show verdict Sp.real (⟨[98], 0, []⟩ : It).path ⟨[97], 0, []⟩ = 2 from v2]
  rfl
theorem k_three : writeN Sp.real [⟨[97, 47, 46, 46, 47, 98], 0, []⟩] = ([], 2, 0) := by
  have v2 : verdict Sp.real [] ⟨[97, 47, 46, 46, 47, 98], 0, []⟩ = 2 := verdict_no (by decide) (.inr (by decide +kernel))
  unfold writeN badAt
  rw [if_neg (by decide), v2]
  rfl
theorem k_four : writeN Sp.real [⟨[97], 1, [120]⟩] = ([], 2, 0) := by
  have v2 : verdict Sp.real [] ⟨[97], 1, [120]⟩ = 2 := verdict_no (by decide) (.inl (by decide))
  unfold writeN badAt
  rw [if_neg (by decide), v2]
  rfl
theorem itv_at : ∀ (vs : List IV) (k : Nat) (i : IV), vs[k]? = some i → (itv vs)[k * 3]? = some (.string (mkB i.x.path)) ∧ (itv vs)[k * 3 + 1]? = some (.int .i8 i.x.kind) ∧ (itv vs)[k * 3 + 2]? = some i.dat
  | [], _, _, h => by cases h
  | a :: vs, 0, i, h => by cases h; exact ⟨rfl, rfl, rfl⟩
  | a :: vs, k + 1, i, h => by
    obtain ⟨h1, h2, h3⟩ := itv_at vs k i h
    have e : itv (a :: vs) = [.string (mkB a.x.path), .int .i8 a.x.kind, a.dat] ++ itv vs := rfl
    rw [e, show (k + 1) * 3 = k * 3 + 3 from by omega]
    refine ⟨?_, ?_, ?_⟩
    · rw [List.getElem?_append_right (by simp)]; exact h1
    · rw [List.getElem?_append_right (by simp <;> omega)]; simpa using h2
    · rw [List.getElem?_append_right (by simp <;> omega)]; simpa using h3
/-- A row of items just laid. -/
theorem its_new (w : World) (vs : List IV) (h : ∀ i ∈ vs, BySl w i.D i.x.data.length i.x.data) : ItSl (w.alloc (.cells (itv vs).toArray 50)) (some ⟨w.heap.size, 0, none⟩) vs.length (vs.map (·.x)) := by
  refine ⟨by rw [List.length_map], fun hn => ⟨w.heap.size, 0, rfl, by simp, fun k x hk => ?_⟩⟩
  rw [List.getElem?_map, Option.map_eq_some_iff] at hk
  obtain ⟨i, hi, rfl⟩ := hk
  obtain ⟨k1, k2, k3⟩ := itv_at vs k i hi
  have c := fun j => (Ext.refl (w.alloc (.cells (itv vs).toArray 50))).cell_new j
  refine ⟨?_, ?_, i.D, i.dc, ?_, (h i (List.mem_of_getElem? hi)).ext ((Ext.refl _).alloc _)⟩
  · rw [c, Nat.zero_add]; simpa using k1
  · rw [c, Nat.zero_add]; simpa using k2
  · have k3' : (itv vs)[k * 3 + 2]? = some (.slice i.D i.x.data.length i.dc) := k3
    rw [c, Nat.zero_add]; simpa using k3'
theorem write_many (A : Option Addr) (n c : Nat) (w : World) (hn : (4096 : Int) < (n : Int)) :
    Calls Tryd.prog 13 #[.slice A n c] w fun e w' => e = .returned (.tuple #[.slice none 0 0, .int .i64 3, .int .i64 4096]) ∧ Ext w w' := by
  go_enter Tryd.func13, Tryd.ntmps13
  go_wp2_with fail
  go_ret3
  exact ⟨rfl, Ext.refl _⟩
theorem k_head : Runs Sp.real (Rd.new.on [77, 85]) [] none := .tear (first_tear _ rfl (by decide))
theorem k_body : Runs Sp.real (Rd.new.on [77, 84, 65, 49, 0, 0, 1, 255, 253]) [] none := by
  refine .step (o := none) (first_go _ rfl (by decide) (by decide)) (.tear ?_)
  unfold stp
  rw [if_neg (by simp), if_neg (by simp [Rd.new, Rd.on])]
  rfl
theorem k_end : ∃ y : Rd, Runs Sp.real (Rd.new.on [77, 84, 65, 49, 255, 0]) [] (some y) ∧ y.b = [255, 0] := by
  refine ⟨_, .step (o := none) (first_go _ rfl (by decide) (by decide)) (.stop ?_), rfl⟩
  unfold stp
  rw [if_neg (by simp), if_neg (by simp [Rd.new, Rd.on])]
  rfl
theorem all_empty : allB Sp.real [] = [77, 84, 65, 49, 255, 0, 0, 0, 0] ++ beN 8 (sumB Sp.real [77, 84, 65, 49, 255, 0, 0, 0, 0]) := rfl
theorem info50_mk : ∃ X : Array Value, ∀ w : World, (Instr.makeSlice 22 (.int .i64 4097) (.int .i64 4097)).run Tryd.prog w = .ok (.slice (some ⟨w.heap.size, 0, none⟩) 4097 4097) (w.alloc (.cells X 50)) := by
  obtain ⟨i, hi, hz, hsz, hby⟩ := info_parts Tryd.info50
  exact ⟨_, fun w => run_makeSlice (P := Tryd.prog) w 22 50 i _ Tryd.underlying22 hi hz .i64 .i64 4097 4097 (by decide) (by decide) (by rw [hsz]; decide) (by rw [hby]; decide) (by decide)⟩
end Go.Proofs.YtcpnnkkfndgpjaaDoor
