import Derived.WalkKit
/- What the layers up to the parser compute, as plain functions on lists of bytes. No condition. -/
namespace Go.Proofs.YtfonfcbibdfplaaGreatDoor

/-- Bytes in a row. -/
abbrev Bs := List UInt8

/-! ### Layer 1 -/
def letter (c : UInt8) : Bool := (decide (65 ≤ c) && decide (c ≤ 90)) || (decide (97 ≤ c) && decide (c ≤ 122))
def digit (c : UInt8) : Bool := decide (48 ≤ c) && decide (c ≤ 57)
def low1 (c : UInt8) : UInt8 := if decide (65 ≤ c) && decide (c ≤ 90) then c + 32 else c
def lower (l : Bs) : Bs := l.map low1
def hexv (c : UInt8) : Option Nat :=
  if digit c then some (c.toNat - 48)
  else if decide (97 ≤ c) && decide (c ≤ 102) then some (c.toNat - 87)
  else if decide (65 ≤ c) && decide (c ≤ 70) then some (c.toNat - 55)
  else none
def hexI (c : UInt8) : Int := match hexv c with | some n => n | none => -1

def spanB (b : UInt8) : UInt8 × UInt8 × Nat :=
  if decide (0xC2 ≤ b) && decide (b ≤ 0xDF) then (0x80, 0xBF, 2)
  else if b == 0xE0 then (0xA0, 0xBF, 3)
  else if b == 0xED then (0x80, 0x9F, 3)
  else if decide (0xE1 ≤ b) && decide (b ≤ 0xEF) then (0x80, 0xBF, 3)
  else if b == 0xF0 then (0x90, 0xBF, 4)
  else if decide (0xF1 ≤ b) && decide (b ≤ 0xF3) then (0x80, 0xBF, 4)
  else if b == 0xF4 then (0x80, 0x8F, 4)
  else (0, 0, 0)
/-- How many bytes, so many at most, go on a character: the first in its own range. -/
def conts : Nat → UInt8 → UInt8 → Bs → Nat
  | 0, _, _, _ => 0
  | _ + 1, _, _, [] => 0
  | m + 1, lo, hi, c :: t => if decide (lo ≤ c) && decide (c ≤ hi) then 1 + conts m 0x80 0xBF t else 0
def runeOf : Bs → Int
  | [a] => a.toNat
  | [a, b] => ((a.toNat : Int) - 192) * 64 + ((b.toNat : Int) - 128)
  | [a, b, c] => ((a.toNat : Int) - 224) * 4096 + ((b.toNat : Int) - 128) * 64 + ((c.toNat : Int) - 128)
  | [a, b, c, d] => ((a.toNat : Int) - 240) * 262144 + ((b.toNat : Int) - 128) * 4096 + ((c.toNat : Int) - 128) * 64 + ((d.toNat : Int) - 128)
  | _ => 65533
/-- The first character of bytes, and how many are read for it. -/
def first (c : UInt8) (t : Bs) : Int × Nat :=
  if c < 128 then (c.toNat, 1)
  else if (spanB c).2.2 = 0 then (65533, 1)
  else if 1 + conts ((spanB c).2.2 - 1) (spanB c).1 (spanB c).2.1 t < (spanB c).2.2 then (65533, 1 + conts ((spanB c).2.2 - 1) (spanB c).1 (spanB c).2.1 t)
  else (runeOf ((c :: t).take (spanB c).2.2), (spanB c).2.2)
def decodeF : Nat → Bs → List Int
  | 0, _ => []
  | _ + 1, [] => []
  | k + 1, c :: t => (first c t).1 :: decodeF k ((c :: t).drop (first c t).2)
def decode (l : Bs) : List Int := decodeF l.length l
def byteOf (n : Int) : UInt8 := UInt8.ofNat n.toNat
def enc1 (r : Int) : Bs :=
  if 0 ≤ r ∧ r < 128 then [byteOf r]
  else if 128 ≤ r ∧ r < 2048 then [byteOf (192 + r / 64), byteOf (128 + r % 64)]
  else if 2048 ≤ r ∧ r < 65536 ∧ ¬ (55296 ≤ r ∧ r ≤ 57343) then [byteOf (224 + r / 4096), byteOf (128 + r / 64 % 64), byteOf (128 + r % 64)]
  else if 65536 ≤ r ∧ r ≤ 1114111 then [byteOf (240 + r / 262144), byteOf (128 + r / 4096 % 64), byteOf (128 + r / 64 % 64), byteOf (128 + r % 64)]
  else [239, 191, 189]
def encode (l : List Int) : Bs := l.flatMap enc1
def blank (c : UInt8) : Bool := decide (c ≤ 32)
def trimB (l : Bs) : Bs := ((l.dropWhile blank).reverse.dropWhile blank).reverse
def dropWs (l : Bs) : Bs := l.filter fun c => !(c == 9 || c == 10 || c == 13)
def clean (l : Bs) : Bs := dropWs (trimB (encode (decode l)))

/-! ### Layer 2 -/
def signsQ : Bs := [32, 34, 35, 60, 62]
def signsP : Bs := [32, 34, 35, 60, 62, 63, 94, 96, 123, 125]
def signsU : Bs := signsP ++ [47, 58, 59, 61, 64, 91, 92, 93, 124]
def signs (set : Nat) : Bs :=
  if set = 1 then [32, 34, 60, 62, 96] else if set = 2 then signsQ else if set = 3 then signsQ ++ [39] else if set = 4 then signsP
  else if set = 5 then signsU else if set = 6 then signsU ++ [36, 37, 38, 43, 44] else []
def inSet (set : Nat) (c : UInt8) : Bool := decide (set ≤ 6) && (decide (c < 32) || decide (126 < c) || (signs set).contains c)
def hexDig (n : UInt8) : UInt8 := if n < 10 then 48 + n else 55 + n
def esc1 (c : UInt8) : Bs := [37, hexDig (c / 16), hexDig (c % 16)]
def escape (set : Nat) (l : Bs) : Bs := l.flatMap fun c => if inSet set c then esc1 c else [c]
def unescape : Bs → Bs
  | [] => []
  | [a] => [a]
  | [a, b] => [a, b]
  | a :: b :: c :: t =>
    match a == 37, hexv b, hexv c with
    | true, some x, some y => UInt8.ofNat (16 * x + y) :: unescape t
    | _, _, _ => a :: unescape (b :: c :: t)

/-! ### Texts -/
def split (sep : UInt8) : Bs → List Bs
  | [] => [[]]
  | c :: t => if c == sep then [] :: split sep t else match split sep t with | [] => [[c]] | x :: l => (c :: x) :: l
def cut1 (sep : UInt8) (l : Bs) : Bs × Bs × Bool := (l.takeWhile (· != sep), (l.dropWhile (· != sep)).drop 1, l.contains sep)
/-- What stands ahead of the first '::', and behind it. -/
def cut2 : Bs → Option (Bs × Bs)
  | [] => none
  | [_] => none
  | a :: b :: t => if a == 58 && b == 58 then some ([], t) else (cut2 (b :: t)).map fun x => (a :: x.1, x.2)
def join (sep : Bs) : List Bs → Bs
  | [] => []
  | [a] => a
  | a :: b :: l => a ++ sep ++ join sep (b :: l)
def decF : Nat → Nat → Bs
  | 0, _ => []
  | k + 1, n => if n < 10 then [UInt8.ofNat (48 + n)] else decF k (n / 10) ++ [UInt8.ofNat (48 + n % 10)]
/-- A number's digits. -/
def dec (n : Nat) : Bs := decF (n + 1) n
def itoa (n : Int) : Bs := if n < 0 then 45 :: dec n.natAbs else dec n.toNat
def hexd (n : Nat) : UInt8 := UInt8.ofNat (if n < 10 then 48 + n else 87 + n)
def hexF : Nat → Nat → Bs
  | 0, _ => []
  | k + 1, n => if n < 16 then [hexd n] else hexF k (n / 16) ++ [hexd (n % 16)]
/-- A number's hexadecimal digits. -/
def hexs (n : Nat) : Bs := hexF (n + 1) n

/-! ### Layer 7 -/
def numF (base : Nat) : Nat → Bs → Option Nat
  | n, [] => some n
  | n, c :: t => match hexv c with | some d => if d < base then numF base (min (n * base + d) 4294967296) t else none | none => none
def numQ : Bs → Option Nat
  | [] => none
  | [a] => numF 10 0 [a]
  | a :: b :: t => if a == 48 then (if b == 120 || b == 88 then numF 16 0 t else numF 8 0 (b :: t)) else numF 10 0 (a :: b :: t)
def partsQ (s : Bs) : List Bs := if 1 < (split 46 s).length && (split 46 s).getLastD [] == [] then (split 46 s).dropLast else split 46 s
def endsQ (s : Bs) : Bool := (!((partsQ s).getLastD []).isEmpty && ((partsQ s).getLastD []).all digit) || (numQ ((partsQ s).getLastD [])).isSome
def parseF : Nat → Nat → List Bs → Option Nat
  | _, out, [] => some out
  | k, out, [p] => match numQ p with | some n => if n < 2 ^ (8 * (4 - k)) then some (out + n) else none | none => none
  | k, out, p :: q :: l => match numQ p with | some n => if n ≤ 255 then parseF (k + 1) (out + n * 2 ^ (8 * (3 - k))) (q :: l) else none | none => none
def parseQ (s : Bs) : Option Nat := if 4 < (partsQ s).length then none else parseF 0 0 (partsQ s)
def printQ (n : Nat) : Bs := dec (n / 16777216 % 256) ++ [46] ++ dec (n / 65536 % 256) ++ [46] ++ dec (n / 256 % 256) ++ [46] ++ dec (n % 256)

/-! ### Layer 8 -/
def pieceF : Nat → Bs → Option Nat
  | n, [] => some n
  | n, c :: t => match hexv c with | some d => pieceF (n * 16 + d) t | none => none
def pieceS (s : Bs) : Option Nat := if s.isEmpty || 4 < s.length then none else pieceF 0 s
def octet (s : Bs) : Option Nat :=
  if s.isEmpty || 3 < s.length || !s.all digit then none
  else (fun n => if n ≤ 255 && dec n == s then some n else none) (s.foldl (fun n c => n * 10 + (c.toNat - 48)) 0)
def tailS (s : Bs) : Option (List Nat) :=
  match (split 46 s).map octet with
  | [some a, some b, some c, some d] => some [a * 256 + b, c * 256 + d]
  | _ => none
def runF (last : Bool) : List Bs → Option (List Nat)
  | [] => some []
  | [p] => if last && p.contains 46 then tailS p else (pieceS p).map fun n => [n]
  | p :: q :: l => match pieceS p with | some n => (runF last (q :: l)).map fun r => n :: r | none => none
def runS (s : Bs) (last : Bool) : Option (List Nat) := if s.isEmpty then some [] else runF last (split 58 s)
def parseS (s : Bs) : Option (List Nat) :=
  match cut2 s with
  | none => match runS s true with | some a => if a.length = 8 then some a else none | none => none
  | some (x, y) =>
    match runS x false, runS y true with
    | some a, some b => if (cut2 y).isSome || 8 ≤ a.length + b.length then none else some (a ++ List.replicate (8 - a.length - b.length) 0 ++ b)
    | _, _ => none
def zeros : List Nat → Nat
  | [] => 0
  | n :: l => if n = 0 then 1 + zeros l else 0
/-- Where the longest run of noughts begins, and ends; 'k' places are behind. -/
def longF : Nat → Nat → Nat → Nat → List Nat → Nat × Nat
  | 0, _, f, e, _ => (f, e)
  | fuel + 1, k, f, e, l =>
    if l.isEmpty then (f, e)
    else if e - f < zeros l then longF fuel (k + zeros l + 1) k (k + zeros l) (l.drop (zeros l + 1))
    else longF fuel (k + zeros l + 1) f e (l.drop (zeros l + 1))
def longest (l : List Nat) : Nat × Nat := (fun x => if x.2 - x.1 < 2 then (0, 0) else x) (longF 9 0 0 0 l)
def joinS (l : List Nat) : Bs := join [58] (l.map hexs)
def printS (a : List Nat) : Bs := if (longest a).2 = 0 then joinS a else joinS (a.take (longest a).1) ++ [58, 58] ++ joinS (a.drop (longest a).2)

/-! ### Layer 9 -/
def hostSigns : Bs := [0, 9, 10, 13, 32, 35, 47, 58, 60, 62, 63, 64, 91, 92, 93, 94, 124]
def forbidden (c : UInt8) (domain : Bool) : Bool := hostSigns.contains c || (domain && (decide (c < 32) || c == 127 || c == 37))
def hasBad (s : Bs) (domain : Bool) : Bool := s.any fun c => forbidden c domain || (domain && decide (126 < c))
def literal (s : Bs) : Option Bs :=
  if (s.drop 1).getLast? == some 93 then (parseS (s.drop 1).dropLast).map fun a => [91] ++ printS a ++ [93] else none
def domainH (s : Bs) : Option Bs :=
  (fun d => if d.isEmpty || hasBad d true then none else if endsQ d then (parseQ d).map printQ else some d) (lower (unescape s))
def hostP (s : Bs) (special : Bool) : Option Bs :=
  if s.head? == some 91 then literal s else if special then domainH s else if hasBad s false then none else some (escape 0 s)

/-! ### Layer 10 -/
def dotsF : Nat → Bs → Option Nat
  | 0, _ => some 0
  | _ + 1, [] => some 0
  | k + 1, c :: t =>
    if c == 46 then (dotsF k t).map (· + 1)
    else if lower ((c :: t).take 3) == [37, 50, 101] then (dotsF k ((c :: t).drop 3)).map (· + 1)
    else none
/-- How many points a segment is; 0: something else. -/
def dots (s : Bs) : Nat := (dotsF s.length s).getD 0
def single (s : Bs) : Bool := dots s == 1
def double (s : Bs) : Bool := dots s == 2
def drive : Bs → Bool
  | [a, b] => letter a && (b == 58 || b == 124)
  | _ => false
def normal (s : Bs) : Bool := drive s && s[1]? == some 58
def begins : Bs → Bool
  | a :: b :: t => drive [a, b] && (match t with | [] => true | c :: _ => c == 47 || c == 92 || c == 63 || c == 35)
  | _ => false
def shorten (file : Bool) (p : List Bs) : List Bs := if file && p.length == 1 && normal (p.headD []) then p else p.dropLast
def step (file : Bool) (p : List Bs) (s : Bs) (last : Bool) : List Bs :=
  if double s then (if last then shorten file p ++ [[]] else shorten file p)
  else if single s then (if last then p ++ [[]] else p)
  else p ++ [escape 4 (if file && p.isEmpty && drive s then s.take 1 ++ [58] else s)]
def walkF (file : Bool) : List Bs → List Bs → List Bs
  | p, [] => p
  | p, [s] => step file p s true
  | p, s :: t :: l => walkF file (step file p s false) (t :: l)
def unback (s : Bs) : Bs := s.map fun c => if c == 92 then 47 else c
def walk (file special : Bool) (p : List Bs) (s : Bs) : List Bs := walkF file p (split 47 (if special then unback s else s))

/-! ### Layer 11 -/
structure Url where
  scheme : Bs
  user : Bs
  pass : Bs
  host : Bs
  hasHost : Bool
  port : Int
  opq : Bool
  text : Bs
  path : List Bs
  hasQ : Bool
  hasF : Bool
  query : Bs
  frag : Bs
def Url.zero : Url := ⟨[], [], [], [], false, 0, false, [], [], false, false, [], []⟩
def sFtp : Bs := [102, 116, 112]
def sFile : Bs := [102, 105, 108, 101]
def sHttp : Bs := [104, 116, 116, 112]
def sHttps : Bs := [104, 116, 116, 112, 115]
def sWs : Bs := [119, 115]
def sWss : Bs := [119, 115, 115]
def special (s : Bs) : Bool := s == sFtp || s == sFile || s == sHttp || s == sHttps || s == sWs || s == sWss
def defPort (s : Bs) : Int := if s == sFtp then 21 else if s == sHttp || s == sWs then 80 else if s == sHttps || s == sWss then 443 else -1
def authU (u : Url) : Bs :=
  if u.hasHost then
    [47, 47] ++ u.user ++ (if u.pass.isEmpty then [] else 58 :: u.pass) ++ (if u.user.isEmpty && u.pass.isEmpty then [] else [64]) ++ u.host ++
      (if u.port = -1 then [] else 58 :: itoa u.port)
  else []
def pathU (u : Url) : Bs := if u.opq then u.text else u.path.flatMap fun s => 47 :: s
def bare (u : Url) : Bs :=
  u.scheme ++ [58] ++ authU u ++ (if !u.hasHost && !u.opq && decide (1 < u.path.length) && (u.path.headD []).isEmpty then [47, 46] else []) ++ pathU u ++
    (if u.hasQ then 63 :: u.query else [])
def printU (u : Url) : Bs := if u.hasF then bare u ++ 35 :: u.frag else bare u
def sameU (a b : Url) : Bool :=
  (a.scheme == b.scheme && a.user == b.user && a.pass == b.pass && a.hasHost == b.hasHost && (!a.hasHost || a.host == b.host) && a.port == b.port) &&
  (a.opq == b.opq && (if a.opq then a.text == b.text else a.path == b.path)) &&
  (a.hasQ == b.hasQ && (!a.hasQ || a.query == b.query)) && a.hasF == b.hasF && (!a.hasF || a.frag == b.frag)

/-! ### Layer 12 -/
structure PS where
  u : Url
  base : Option Url
  rest : Bs
  query : Bs
  frag : Bs
  bad : Bool
def schemeC (c : UInt8) : Bool := letter c || digit c || c == 43 || c == 45 || c == 46
/-- A text's scheme, and what stands behind it. -/
def schemeP (s : Bs) : Option (Bs × Bs) :=
  if s.contains 58 && (match s with | [] => false | c :: _ => letter c) && (s.takeWhile (· != 58)).all schemeC
  then some (lower (s.takeWhile (· != 58)), (s.dropWhile (· != 58)).drop 1) else none
def slashes (p : PS) : Bs := if special p.u.scheme then [47, 92] else [47]
def slash (p : PS) (s : Bs) (n : Nat) : Bool := decide (n ≤ s.length) && (s.take n).all fun c => (slashes p).contains c
def based (p : PS) (s : Bs) : Bool := match p.base with | some b => b.scheme == s | none => false
def whom (p : PS) : PS := match p.base with
  | some b => { p with u := { p.u with hasHost := b.hasHost, host := b.host, port := b.port, user := b.user, pass := b.pass } }
  | none => p
def walkP (p : PS) (from_ : List Bs) (s : Bs) : PS := { p with u := { p.u with path := walk (p.u.scheme == sFile) (special p.u.scheme) from_ s } }
def pathP (p : PS) (s : Bs) : PS :=
  if slash p s 1 then walkP p [] (s.drop 1) else if !s.isEmpty || special p.u.scheme then walkP p [] s else p
def keep (p : PS) : PS := match p.base with
  | some b => { p with u := { p.u with path := b.path, hasQ := if p.u.hasQ then true else b.hasQ, query := if p.u.hasQ then p.u.query else b.query } }
  | none => p
def cutP (p : PS) (s : Bs) : Bs × Bs := (s.takeWhile fun c => !(slashes p).contains c, s.dropWhile fun c => !(slashes p).contains c)
def colonF : Nat → Bool → Bs → Option Nat
  | _, _, [] => none
  | k, inside, c :: t =>
    if c == 91 then colonF (k + 1) true t else if c == 93 then colonF (k + 1) false t
    else if c == 58 && !inside then some k else colonF (k + 1) inside t
def colon (s : Bs) : Option Nat := colonF 0 false s
def portF : Nat → Bs → Nat
  | n, [] => n
  | n, c :: t => portF (min (n * 10 + (c.toNat - 48)) 65536) t
/-- The port of a text, and whether it is one. -/
def portP (p : PS) (s : Bs) : Int × Bool :=
  if s.all digit then
    (fun n : Nat => if s.isEmpty || (n : Int) == defPort p.u.scheme then (-1, true) else ((n : Int), decide (n ≤ 65535))) (portF 0 s)
  else (0, false)
def hostPut (p : PS) (s : Bs) (bad : Bool) : PS := match hostP s (special p.u.scheme) with
  | some h => { p with bad := bad, u := { p.u with hasHost := true, host := h } }
  | none => { p with bad := true, u := { p.u with hasHost := true, host := [] } }
def meet (p : PS) (s : Bs) : PS := match colon s with
  | some k => hostPut { p with u := { p.u with port := (portP p (s.drop (k + 1))).1 } } (s.take k) (p.bad || !(portP p (s.drop (k + 1))).2 || k == 0)
  | none => hostPut p s p.bad
/-- What stands ahead of a text's last @, and behind it. -/
def lastAt (s : Bs) : Option (Bs × Bs) :=
  if s.contains 64 then some (((s.reverse.dropWhile (· != 64)).drop 1).reverse, (s.reverse.takeWhile (· != 64)).reverse) else none
def authP (p : PS) (s : Bs) : PS := match lastAt (cutP p s).1 with
  | some (cred, h) =>
    pathP (meet { p with u := { p.u with user := escape 5 (cut1 58 cred).1, pass := escape 5 (cut1 58 cred).2.1 }, bad := p.bad || h.isEmpty } h) (cutP p s).2
  | none => pathP (meet p (cutP p s).1) (cutP p s).2
def baseOf (p : PS) : Url := p.base.getD Url.zero
def relative (p0 : PS) : PS :=
  (fun p : PS =>
    if slash p p.rest 2 then (if special p.u.scheme then authP p (p.rest.dropWhile fun c => (slashes p).contains c) else authP p (p.rest.drop 2))
    else if slash p p.rest 1 then pathP (whom p) p.rest
    else if p.rest.isEmpty then keep (whom p)
    else walkP (whom p) (shorten false (baseOf p).path) p.rest) { p0 with u := { p0.u with scheme := (baseOf p0).scheme } }
def sLocal : Bs := [108, 111, 99, 97, 108, 104, 111, 115, 116]
def far (p : PS) (s : Bs) : PS :=
  if drive (cutP p s).1 then pathP p s
  else if (cutP p s).1.isEmpty then pathP p (cutP p s).2
  else match hostP (cutP p s).1 true with
    | some h => pathP (if h == sLocal then p else { p with u := { p.u with host := h } }) (cutP p s).2
    | none => pathP { p with bad := true, u := { p.u with host := [] } } (cutP p s).2
def near (p : PS) (s : Bs) : PS := match p.base with
  | some b => walkP { p with u := { p.u with host := b.host } } (if !begins s && !b.path.isEmpty && normal (b.path.headD []) then b.path.take 1 else []) s
  | none => walkP p [] s
def fileP (p0 : PS) : PS :=
  (fun p : PS =>
    if slash p p.rest 2 then far p (p.rest.drop 2)
    else if slash p p.rest 1 then near p (p.rest.drop 1)
    else match p.base with
      | none => walkP p [] p.rest
      | some b =>
        (fun q : PS => if p.rest.isEmpty then keep q else if begins p.rest then walkP q [] p.rest else walkP q (shorten true b.path) p.rest)
          { p with u := { p.u with host := b.host } }) { p0 with u := { p0.u with scheme := sFile, hasHost := true } }
def opaqueP (p : PS) : PS :=
  if (p.u.hasQ || p.u.hasF) && p.rest.getLast? == some 32 then { p with u := { p.u with opq := true, text := escape 0 p.rest.dropLast ++ [37, 50, 48] } }
  else { p with u := { p.u with opq := true, text := escape 0 p.rest } }
def two (s : Bs) : Bool := s.take 2 == [47, 47]
def schemed (p : PS) : PS :=
  if p.u.scheme == sFile then (if based p sFile then fileP p else fileP { p with base := none })
  else if special p.u.scheme then
    (if based p p.u.scheme && !two p.rest then relative p else authP p (p.rest.dropWhile fun c => (slashes p).contains c))
  else if two p.rest then authP p (p.rest.drop 2)
  else if p.rest.head? == some 47 then pathP p p.rest
  else opaqueP p
def plain (p : PS) : PS := match p.base with
  | none => { p with bad := true }
  | some b =>
    if b.opq then { p with bad := !p.rest.isEmpty || p.u.hasQ || !p.u.hasF, u := { p.u with scheme := b.scheme, opq := true, text := b.text, hasQ := b.hasQ, query := b.query } }
    else if b.scheme == sFile then fileP p else relative p
def finish (p : PS) : PS :=
  { p with u := { p.u with query := if p.query.isEmpty then p.u.query else escape (if special p.u.scheme then 3 else 2) p.query, frag := escape 1 p.frag } }
/-- The state ahead of a text's parts. -/
def start (s : Bs) (base : Option Url) : PS :=
  (fun c : Bs => (fun a : Bs × Bs × Bool => (fun b : Bs × Bs × Bool =>
    match schemeP b.1 with
    | some (n, r) => ⟨{ Url.zero with port := -1, scheme := n, hasQ := b.2.2, hasF := a.2.2 }, base, r, b.2.1, a.2.1, false⟩
    | none => ⟨{ Url.zero with port := -1, hasQ := b.2.2, hasF := a.2.2 }, base, b.1, b.2.1, a.2.1, false⟩) (cut1 63 a.1)) (cut1 35 c)) (clean s)
def hasScheme (s : Bs) : Bool := (schemeP (cut1 63 (cut1 35 (clean s)).1).1).isSome
def run (s : Bs) (base : Option Url) : PS := if hasScheme s then schemed (start s base) else plain (start s base)
def parse (s : Bs) (base : Option Url) : Url × Nat :=
  if 65536 < s.length then (Url.zero, 3) else if (run s base).bad then (Url.zero, 2) else ((finish (run s base)).u, 0)

end Go.Proofs.YtfonfcbibdfplaaGreatDoor

