/-
  Plain: the sizes of QR codes: codewords, remainder bits, alignment coordinates, check codewords and blocks of the levels.
  No program; conditions stand in each lemma.
-/
namespace Go.Qrv

def sz (v : Nat) : Nat := 17 + 4 * v
/-- The number of alignment coordinates. -/
def na (v : Nat) : Nat := if v = 1 then 0 else v / 7 + 2
/-- The modules that no codeword and no remainder bit takes. -/
def other (v : Nat) : Nat := 192 + 2 * (sz v - 16) + 31 + (if 7 ≤ v then 36 else 0) + (if v = 1 then 0 else 25 * (na v * na v - 3) - 10 * (na v - 2))
def wordsN (v : Nat) : Nat := (sz v * sz v - other v) / 8
def remN (v : Nat) : Nat := (sz v * sz v - other v) % 8

/-- A byte for each version, from 1 on, the least first. -/
def chkLit : Nat → Nat
  | 1 => 0x1e1e1e1e1e1e1e1e1e1e1e1e1e1e1c1a1e1e1c1c1c1c1e1c18161e1a1814121e1814121a140f0a07
  | 2 => 0x1c1c1c1c1c1c1c1c1c1c1c1c1c1c1c1c1c1c1c1a1a1a1a1c1c181816161e1a1616121018121a100a
  | 3 => 0x1e1e1e1e1e1e1e1e1e1e1e1e1e1e1c1e1e1e1e1c1e1a1c1c181e14181a1c1814161218121a12160d
  | _ => 0x1e1e1e1e1e1e1e1e1e1e1e1e1e1e1e1e1e1e181e1c1a1c1c1e1818161c181c181a1a1c1610161c11
def blkLit : Nat → Nat
  | 1 => 0x191816151413131211100f0e0d0c0c0c0a0909080807060606060404040404020202020101010101
  | 2 => 0x312f2d2b28262523211f1d1c1a19171514121111100e0d0b0a0a0909080505050404040202010101
  | 3 => 0x44413e3b383533302d2b28262322221d1b19171714151210110c100c0a0808080606040402020101
  | _ => 0x514d4a46423f3c393633302d2a282523201e221919191513101210100b0b08080605040404020101
def chk (l v : Nat) : Nat := (chkLit l >>> (8 * (v - 1))) % 256
def blk (l v : Nat) : Nat := (blkLit l >>> (8 * (v - 1))) % 256
def dataN (v l : Nat) : Nat := wordsN v - chk l v * blk l v

def stepN (v : Nat) : Nat := (8 * v + 3 * (v / 7 + 2) + 5) / (4 * (v / 7 + 2) - 4) * 2
def al (v : Nat) : List Int := if v = 1 then [] else 6 :: (List.range (v / 7 + 1)).map fun i => ((4 * v + 10 - stepN v * (v / 7 - i) : Nat) : Int)
def cenRow (v : Nat) : List Int := al v ++ List.replicate (7 - (al v).length) 0
def rowRow (v : Nat) : List Int := [(wordsN v : Int), (remN v : Int), (chk 1 v : Int), (blk 1 v : Int), (chk 2 v : Int), (blk 2 v : Int), (chk 3 v : Int), (blk 3 v : Int), (chk 4 v : Int), (blk 4 v : Int)]
def cenFlat : List Int := (List.range 40).flatMap fun i => cenRow (i + 1)
def rowFlat : List Int := (List.range 40).flatMap fun i => rowRow (i + 1)

theorem cen_cut : ∀ i : Fin 40, (cenFlat.drop (i.val * 7)).take 7 = cenRow (i.val + 1) := by decide +kernel
theorem cen_len : ∀ i : Fin 40, (cenRow (i.val + 1)).length = 7 := by decide +kernel
theorem row_cut : ∀ i : Fin 40, (rowFlat.drop (i.val * 10)).take 10 = rowRow (i.val + 1) := by decide +kernel

end Go.Qrv
