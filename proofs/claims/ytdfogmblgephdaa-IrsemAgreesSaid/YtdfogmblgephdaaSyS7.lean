/- The symbolic executor SY, its soundness, part 7: the other pure operations. -/
import Derived.Test.YtdfogmblgephdaaSyS6
import Derived.Laws.Tables
set_option linter.unusedVariables false
set_option linter.unusedSimpArgs false
namespace Go.SY
open Go Go.RowKit

variable {P : Program} {ty : Ty} {ρ ρ1 ρ2 : Env} {p : Pu} {a : Act} {o : Oper} {v : SV} {d d' : Bd}

/-- The bytes of a row. -/
theorem repL_bytes {fz : Fz} {e : Nat} (he : tdOf ty e = .int .u8) : ∀ {l : List Dt} {s b off : Nat}, repL ty fz l e s b off → ∀ w, FzIn fz w → s = 1 → ∀ (j : Nat) x, l[j]? = some x → ∃ n : Int, x = .num n ∧ 0 ≤ n ∧ n ≤ 255 ∧ w.cell? ⟨b, off + j, none⟩ = some (.int .u8 n)
  | [], _, _, _, _, _, _, _, _, _, h => by simp at h
  | y :: l, s, b, off, hr, w, hw, hs, 0, x, h => by
    simp only [List.getElem?_cons_zero, Option.some.injEq] at h
    subst h
    simp only [repL] at hr
    obtain ⟨⟨cs, h1, h2, h3⟩, _⟩ := hr
    obtain ⟨n, rfl, rfl, h4, h5⟩ := rep_int he h3
    refine ⟨n, rfl, h4, h5, ?_⟩
    exact fzCell_w hw (by simpa using h2 0 _ rfl)
  | y :: l, s, b, off, hr, w, hw, hs, j + 1, x, h => by
    simp only [List.getElem?_cons_succ] at h
    simp only [repL] at hr
    obtain ⟨n, h1, h2, h3, h4⟩ := repL_bytes he hr.2 w hw hs j x h
    refine ⟨n, h1, h2, h3, ?_⟩
    rw [show off + (j + 1) = off + s + j by omega]; exact h4
theorem bytes_forIn (xs : List Int) (h : ∀ n ∈ xs, 0 ≤ n ∧ n ≤ 255) (w : World) : ∀ (s : ByteArray),
    (forIn (m := Sem) (xs.map (Value.int .u8)) s fun c r => do
      let .int .u8 n := c | stuck "bytesToString: byte expected"
      pure (ForInStep.yield (r.push (UInt8.ofNat n.toNat)))).run P w = .ok ⟨s.data ++ (xs.map fun n => UInt8.ofNat n.toNat).toArray⟩ w := by
  induction xs with
  | nil => intro s; simp
  | cons x xs ih =>
    intro s
    have ih := ih (fun n hn => h n (List.mem_cons_of_mem _ hn)) (s.push (UInt8.ofNat x.toNat))
    simp only [List.map_cons, List.forIn_cons, Sem.run_bind, Sem.run_pure, Result.andThen_ok, ih]
    congr 2
    simp [ByteArray.push]
theorem bytesToString_ok {fz : Fz} {t e s : Nat} (hty : TyOk P ty) (ht : tdOf ty t = .slice e s) (hs : s = 1) (he : tdOf ty e = .int .u8) {x : Dt} {v : Value} (hr : rep ty fz x t [v]) (w : World) (hw : FzIn fz w) :
    (Conv.bytesToString v).run P w = .ok (bytesOf (x.list.map fun d => UInt8.ofNat d.int.toNat)) w := by
  rcases rep_slice ht hr with ⟨rfl, h2⟩ | ⟨l, b, off, sp, cap, rfl, h2, h3, h4, h5, h6⟩
  · injection h2 with h2
    subst h2
    rfl
  · injection h2 with h2
    subst h2
    have hb := repL_bytes he h5 w hw hs
    have hcells : ∀ j u, ((l.map fun d => Value.int .u8 d.int))[j]? = some u → w.cell? ((⟨b, off, sp⟩ : Addr).add j) = some u := by
      intro j u hj
      have hsp : sp = none := by
        rcases h6 with h6 | h6
        · exact h6
        · subst h6; simp at hj
      subst hsp
      rw [List.getElem?_map] at hj
      cases hlj : l[j]? with
      | none => rw [hlj] at hj; cases hj
      | some y =>
        rw [hlj] at hj
        cases hj
        obtain ⟨n, rfl, _, _, hc⟩ := hb j y hlj
        rw [Addr.add_lit]; exact hc
    have hload := run_loadCells_list (P := P) w ⟨b, off, sp⟩ _ hcells
    rw [List.length_map] at hload
    have hall : ∀ n ∈ l.map (fun d => d.int), 0 ≤ n ∧ n ≤ 255 := by
      intro n hn
      obtain ⟨y, hy, rfl⟩ := List.mem_map.1 hn
      obtain ⟨j, hj⟩ := List.getElem?_of_mem hy
      obtain ⟨n, rfl, h1, h2, _⟩ := hb j y hj
      exact ⟨h1, h2⟩
    have := bytes_forIn (P := P) (l.map fun d => d.int) hall w ByteArray.empty
    rw [List.map_map] at this
    simp only [Conv.bytesToString, Sem.run_bind, hload, Result.andThen_ok]
    rw [show ((l.map fun d => Value.int .u8 d.int)) = List.map (Value.int IntKind.u8 ∘ fun d => Dt.int d) l from rfl]
    simp only [List.forIn_toArray]
    refine Eq.trans (congrArg (fun r => Result.andThen r _) this) ?_
    simp [bytesOf, Dt.list]

end Go.SY
