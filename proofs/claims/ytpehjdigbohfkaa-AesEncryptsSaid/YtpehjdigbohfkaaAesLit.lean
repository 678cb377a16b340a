/- One key's words and one encryption, literally. No program is in sight. (Printed by aeslit.py.) -/
import Derived.Test.YtpehjdigbohfkaaAesNew
namespace Go.Proofs.Ytpehjdigbohfkaa.Ae
open Go.RowKit Go.Proofs.Ytpehjdigbohfkaa.W Go.Proofs.Ytpehjdigbohfkaa.Gf
set_option linter.unusedVariables false

/-- Byte c of a number. -/
def nb (n c : Nat) : BitVec 8 := BitVec.ofNat 8 (n >>> (8 * c))
def kN : Nat := 20355277184109473632451592845122174570466005575643139519491632349348705432220465582445320306734839236782338064386032861059533201668753527876554580338457185155563434669240233710088929465899529849653542617036413128939278198276082080543213362436565949485179966231341385811865960285492894670216446490098901701156150530189316574374554484451297246493439702291401480056429279106487604805560897913185927245917442760585241677733569457169942622965260403855638687582819566477298508064883805910109573946131471639613432622743106065293698903884390503070937697546497189519146435270623528878336
def sN : Nat := 180353792391948290478630896424119209253396616671870236523508261520768918545353726662387979174215353464560023429487616590580175900748630770977825834534617116457370116022057482636911732504404793215688315274942429303941896659904465057474896486661939426033032613506772034479606985686450962890262335961214032161443000745186193206921455595729114483155531776341490961918506308240342390393885070759149974264275034031216075689482371428373644553023073751067389740468166684862356397004611246809835950551502655009363975431750281636013074506886942822400
def iN : Nat := 209040814074221793879968999015411563131349512674710472742003074033756553646788460635887497026697944185246867469501475403123071703635693478136657981448463534497517027296251458144410490963351838388658746641054114376652930873223111410847578332235444208756106654610853231431047413997081702168873690565006977649063460250286004702116643732441160199706677504745329431631173188923653926786338788493818039002160051436241808898336736860223863142151144210454795365876751063552619497415007527284477284407170409555278578084941607293654390144081403597667
def kl : St := nb kN
def sl (n : Nat) : St := fun i => nb sN (16 * n + i)
def il (n : Nat) : St := fun i => nb iN (16 * n + i)
/-- The rising texts. -/
def rise (by_ : Nat) : St := fun i => BitVec.ofNat 8 (i * by_)
theorem kl_lo : ∀ c, c < 32 → kl c = rise 1 c := by decide +kernel
def gwF (i : Nat) (v : St) : St := fun r => if i % 8 = 0 then (if r = 0 then ad (sbF (v 1)) (rc (i / 8 - 1)) else sbF (v ((r + 1) % 4))) else if i % 8 = 4 then sbF (v r) else v r
theorem gw_fast (i : Nat) (v : St) : gw i v = gwF i v := by
  funext r
  unfold gw gwF
  simp only [sb_fast]
theorem kl_hi : ∀ i, i < 60 → ∀ r, r < 4 → 8 ≤ i → kl (4 * i + r) = kl (4 * (i - 8) + r) ^^^ gwF i (fun r => kl (4 * (i - 1) + r)) r := by decide +kernel
theorem gw_congr (i : Nat) {v u : St} (h : ∀ r, r < 4 → v r = u r) : ∀ r, r < 4 → gw i v r = gw i u r := by
  intro r hr
  unfold gw
  rw [h 1 (by omega), h r hr, h _ (Nat.mod_lt (r + 1) (by omega))]
theorem kword_kl (key : St) (hk : ∀ c, c < 32 → key c = rise 1 c) (i : Nat) (hi : i < 60) : ∀ r, r < 4 → kword key i r = kl (4 * i + r) := by
  induction i using Nat.strongRecOn with
  | ind i ih =>
    intro r hr
    by_cases h8 : i < 8
    · rw [kword_lo _ h8]
      simp only
      rw [hk _ (by omega), kl_lo _ (by omega)]
    · rw [kword_hi _ (by omega)]
      simp only
      rw [ih (i - 8) (by omega) (by omega) r hr, gw_congr i (u := fun r => kl (4 * (i - 1) + r)) (fun r hr => ih (i - 1) (by omega) (by omega) r hr) r hr, gw_fast, kl_hi i hi r hr (by omega)]
theorem kfun_kl (key : St) (hk : ∀ c, c < 32 → key c = rise 1 c) (c : Nat) (hc : c < 240) : kfun key c = kl c := by
  unfold kfun
  rw [kword_kl key hk (c / 4) (by omega) (c % 4) (by omega), show 4 * (c / 4) + c % 4 = c by omega]
theorem sl_zero : ∀ i, i < 16 → rise 17 i ^^^ kl (16 * 0 + i) = sl 0 i := by decide +kernel
theorem il_all : ∀ n, n < 14 → ∀ i, i < 16 → sbF (sl n ((i + 4 * (i % 4)) % 16)) = il n i := by decide +kernel
theorem sl_succ : ∀ n, n < 13 → ∀ i, i < 16 → mixS (il n) i ^^^ kl (16 * (n + 1) + i) = sl (n + 1) i := by decide +kernel
def outN : Nat := 182604182523621360547706652631531758222
theorem out_all : ∀ i, i < 16 → il 13 i ^^^ kl (16 * 14 + i) = nb outN i := by decide +kernel
theorem img_sl (n : Nat) (hn : n < 14) {s : St} (h : Eq16 s (sl n)) : Eq16 (imgS s) (il n) := (imgS_congr h).trans (fun i hi => by
  unfold imgS
  rw [sb_fast, il_all n hn i hi])
theorem rnd_sl (kf : St) (hk : ∀ c, c < 240 → kf c = kl c) (s : St) (hs : ∀ i, i < 16 → s i = rise 17 i) : ∀ n, n < 14 → Eq16 (rndS kf n s) (sl n)
  | 0, _ => fun i hi => by
    unfold rndS addS
    rw [hs i hi, hk _ (by omega), sl_zero i hi]
  | n + 1, hn => fun i hi => by
    unfold rndS addS
    rw [mixS_congr (img_sl n (by omega) (rnd_sl kf hk s hs n (by omega))) i hi, hk _ (by omega), sl_succ n (by omega) i hi]
theorem enc_lit (kf : St) (hk : ∀ c, c < 240 → kf c = kl c) (s : St) (hs : ∀ i, i < 16 → s i = rise 17 i) : strB 16 (encS kf s) = ⟨#[142, 162, 183, 202, 81, 103, 69, 191, 234, 252, 73, 144, 75, 73, 96, 137]⟩ := by
  rw [strB_congr (g := nb outN) (fun i hi => by
    unfold encS addS
    rw [img_sl 13 (by omega) (rnd_sl kf hk s hs 13 (by omega)) i hi, hk _ (by omega), out_all i hi])]
  decide +kernel
end Go.Proofs.Ytpehjdigbohfkaa.Ae
